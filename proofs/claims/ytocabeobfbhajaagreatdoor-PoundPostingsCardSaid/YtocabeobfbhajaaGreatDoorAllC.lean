/- The reckoner where values are not known: entries of the table, and what a run proves. No program is named here. -/
import Derived.Test.YtocabeobfbhajaaGreatDoorAllB
import Derived.Test.YtocabeobfbhajaaGreatDoorAllA
import Derived.Test.YtocabeobfbhajaaGreatDoorChecked
import Derived.BigQuiet
import Derived.Handy
import Derived.WalkKit
import Derived.OrdersHeld
import Derived.KernelRfl
set_option linter.unusedVariables false
set_option linter.unusedSimpArgs false
set_option linter.unusedSectionVars false
section
namespace Go.Proofs.YtocabeobfbhajaaGreatDoor.Sx
noncomputable section
open Go Go.RowKit
section
variable {G : Gl} {P : Program} {a b : AV} {k : IntKind} {m n : Int}
theorem q_t (o : BinOp) (h1 : isCmp o = true) (h2 : iv G.sy a = some (.int k m)) (h3 : iv G.sy b = some (.int k n)) (h : cmpZ o m n) : QOK G P ⟨tagB o, [a, b], .bool true⟩ :=
 .inl ⟨by cases o <;> first | (cases h1; done) | rfl, o, a, b, rfl, rfl, .cmp k m n true h1 h2 h3 rfl ⟨fun _ => h, fun _ => rfl⟩⟩
theorem q_f (o : BinOp) (h1 : isCmp o = true) (h2 : iv G.sy a = some (.int k m)) (h3 : iv G.sy b = some (.int k n)) (h : ¬ cmpZ o m n) : QOK G P ⟨tagB o, [a, b], .bool false⟩ :=
 .inl ⟨by cases o <;> first | (cases h1; done) | rfl, o, a, b, rfl, rfl, .cmp k m n false h1 h2 h3 rfl ⟨fun e => by (cases e), fun e => (h e).elim⟩⟩
theorem q_add {r : AV} (h2 : iv G.sy a = some (.int k m)) (h3 : iv G.sy b = some (.int k n)) (h4 : iv G.sy r = some (.int k (k.wrap (m + n)))) : QOK G P ⟨tagB .add, [a, b], r⟩ :=
 .inl ⟨rfl, .add, a, b, rfl, rfl, .add k m n rfl h2 h3 h4⟩
theorem q_sub {r : AV} (h2 : iv G.sy a = some (.int k m)) (h3 : iv G.sy b = some (.int k n)) (h4 : iv G.sy r = some (.int k (k.wrap (m - n)))) : QOK G P ⟨tagB .sub, [a, b], r⟩ :=
 .inl ⟨rfl, .sub, a, b, rfl, rfl, .sub k m n rfl h2 h3 h4⟩
theorem q_mul {r : AV} (h2 : iv G.sy a = some (.int k m)) (h3 : iv G.sy b = some (.int k n)) (h4 : iv G.sy r = some (.int k (k.wrap (m * n)))) : QOK G P ⟨tagB .mul, [a, b], r⟩ :=
 .inl ⟨rfl, .mul, a, b, rfl, rfl, .mul k m n rfl h2 h3 h4⟩
def loZ : IntKind → Int
 | .i8 => -128 | .i16 => -32768 | .i32 => -2147483648 | .i64 => -9223372036854775808 | _ => 0
def hiZ : IntKind → Int
 | .i8 => 127 | .i16 => 32767 | .i32 => 2147483647 | .i64 => 9223372036854775807 | .u8 => 255 | .u16 => 65535 | .u32 => 4294967295 | .u64 => 18446744073709551615
theorem wrap_id {k : IntKind} {m : Int} (h : loZ k ≤ m ∧ m ≤ hiZ k) : k.wrap m = m := by
 unfold IntKind.wrap
 cases k <;> simp [loZ, hiZ, IntKind.bits, IntKind.signed] at h ⊢ <;> omega
theorem q_addI {r : AV} (h2 : iv G.sy a = some (.int k m)) (h3 : iv G.sy b = some (.int k n)) (h4 : iv G.sy r = some (.int k (m + n))) (h : loZ k ≤ m + n ∧ m + n ≤ hiZ k) : QOK G P ⟨tagB .add, [a, b], r⟩ :=
 q_add h2 h3 (by rw [wrap_id h]; exact h4)
theorem q_it (h2 : iv G.sy a = some (.int k m)) (h3 : iv G.sy b = some (.int k n)) (h : m = n) : QOK G P ⟨20, [a, b], .bool true⟩ :=
 .inr (.inl ⟨rfl, a, b, k, m, n, true, rfl, h2, h3, rfl, ⟨fun _ => h, fun _ => rfl⟩⟩)
theorem q_if (h2 : iv G.sy a = some (.int k m)) (h3 : iv G.sy b = some (.int k n)) (h : ¬ m = n) : QOK G P ⟨20, [a, b], .bool false⟩ :=
 .inr (.inl ⟨rfl, a, b, k, m, n, false, rfl, h2, h3, rfl, ⟨fun e => by (cases e), fun e => (h e).elim⟩⟩)
theorem q_seq_t {s t : ByteArray} (h2 : iv G.sy a = some (.string s)) (h3 : iv G.sy b = some (.string t)) (h : s = t) : QOK G P ⟨tagB .eql, [a, b], .bool true⟩ :=
 .inl ⟨rfl, .eql, a, b, rfl, rfl, .seq s t true rfl h2 h3 rfl ⟨fun _ => h, fun _ => rfl⟩⟩
theorem q_seq_f {s t : ByteArray} (h2 : iv G.sy a = some (.string s)) (h3 : iv G.sy b = some (.string t)) (h : ¬ s = t) : QOK G P ⟨tagB .eql, [a, b], .bool false⟩ :=
 .inl ⟨rfl, .eql, a, b, rfl, rfl, .seq s t false rfl h2 h3 rfl ⟨fun e => by (cases e), fun e => (h e).elim⟩⟩
theorem UnOp.ctor_le (o : UnOp) : o.ctorIdx ≤ 3 := by cases o <;> decide
theorem opOK {tag : Nat} {vs : List AV} {r : AV} (hb : Nat.ble 100 tag = true) (hb' : Nat.ble tag 7999999999 = true) (h : ∀ (o : Oper) (xs : List Operand) (σ : Sg) (ac : Act), σ.sy = G.sy → QK o.op tag xs → Vs σ vs (xs.map ac.eval) → ∀ w, ∃ z, (execOp ac.eval o).run P w = .ok (.value z) w ∧ V σ r z) : QOK G P ⟨tag, vs, r⟩ :=
 .inr (.inr (.inr (.inl ⟨⟨hb, hb'⟩, fun o xs σ ac hs hk hv w => h o xs σ ac hs (qkey_QK hk) hv w⟩)))
theorem ble100 {n : Nat} (h : 100 ≤ n) : Nat.ble 100 n = true := Nat.ble_eq_true_of_le h
theorem q_conv {r : AV} {s d : Nat} {ks kd : IntKind} {c : Int} (ht : P.underlying s = some (.int ks)) (hd : P.underlying d = some (.int kd)) (h2 : iv G.sy a = some (.int k m)) (hc : c = kd.wrap m) (hb : Nat.ble s 9999 = true) (hb' : Nat.ble d 9999 = true) (h4 : iv G.sy r = some (.int kd c)) : QOK G P ⟨1000000000 + (s * 10000 + d), [a], r⟩ := by
 have e1 := Nat.le_of_ble_eq_true hb
 have e2 := Nat.le_of_ble_eq_true hb'
 refine opOK (ble100 (by omega)) (Nat.ble_eq_true_of_le (by omega)) ?_
 rintro ⟨dst, op, ty, pos, after, guard⟩ xs σ ac hs hk hv w
 simp only at hk hv
 obtain ⟨z, rfl, rfl⟩ : ∃ z, op = .convert s d z ∧ xs = [z] := by
  generalize htag : 1000000000 + (s * 10000 + d) = tag at hk
  cases hk
  case un o t x => have := UnOp.ctor_le o; omega
  case conv s' d' x g1 g2 =>
   have g5 : s' = s := by
    rcases Nat.lt_trichotomy s' s with h | h | h
    ·omega
    ·exact h
    ·omega
   have g6 : d' = d := by rw [g5] at htag; exact (Nat.add_left_cancel (Nat.add_left_cancel htag)).symm
   rw [g5, g6]
   exact ⟨x, rfl, rfl⟩
  all_goals omega
 simp only [Vs, List.map_cons, List.map_nil] at hv
 obtain ⟨u, l, hu, hv, rfl⟩ := hv
 cases hu
 have := iv_of hv (by rw [hs]; exact h2)
 subst hc
 refine ⟨.int kd (kd.wrap m), run_v ?_, iv_to (by rw [hs]; exact h4) rfl⟩
 rw [this]
 simp [convert, run_underlying ht, run_underlying hd, Conv.intToInt]
theorem q_convI {r : AV} {s d : Nat} {ks kd : IntKind} (ht : P.underlying s = some (.int ks)) (hd : P.underlying d = some (.int kd)) (h2 : iv G.sy a = some (.int k m)) (h : loZ kd ≤ m ∧ m ≤ hiZ kd) (hb : Nat.ble s 9999 = true) (hb' : Nat.ble d 9999 = true) (h4 : iv G.sy r = some (.int kd m)) : QOK G P ⟨1000000000 + (s * 10000 + d), [a], r⟩ :=
 q_conv ht hd h2 (wrap_id h).symm hb hb' h4
theorem q_idx {i r : AV} {t : Nat} {c : Int} (hb : Nat.ble t 9999 = true) (h2 : iv G.sy i = some (.int k m)) (h : m = c) (hr : indexA P t a (.int k c) = .ok r) : QOK G P ⟨3000000000 + t, [a, i], r⟩ := by
 have e1 := Nat.le_of_ble_eq_true hb
 refine opOK (ble100 (by omega)) (Nat.ble_eq_true_of_le (by omega)) ?_
 rintro ⟨dst, op, ty, pos, after, guard⟩ xs σ ac hs hk hv w
 simp only at hk hv
 obtain ⟨z, y, rfl, rfl⟩ : ∃ z y, op = .index t z y ∧ xs = [z, y] := by
  generalize htag : 3000000000 + t = tag at hk
  cases hk
  case un o t x => have := UnOp.ctor_le o; omega
  case index t' x y g1 =>
   have : t' = t := by omega
   subst this
   exact ⟨_, _, rfl, rfl⟩
  all_goals omega
 simp only [Vs, List.map_cons, List.map_nil] at hv
 obtain ⟨u, l, hu, hv1, u', l', hu', hv2, rfl⟩ := hv
 cases hu
 cases hu'
 have := iv_of hv2 (by rw [hs]; exact h2)
 obtain ⟨z', g1, g2⟩ := indexA_ok hr hv1 (v := .int k c) (by simp only [V]) w
 refine ⟨z', run_v ?_, g2⟩
 rw [this, h]
 exact g1
end
theorem ivs_cons {sy : Nat → Value} {v : AV} {r : List AV} {l : List Value} (e : ivs sy (v :: r) = some l) : (∃ n N l', v = .bs n N ∧ ivs sy r = some l' ∧ l = bcs n N ++ l') ∨ (∃ x l', iv sy v = some x ∧ ivs sy r = some l' ∧ l = x :: l') := by
 cases v
 case bs n N =>
  simp only [ivs] at e
  split at e
  case h_2 => cases e
  rename_i l' hl
  cases e
  exact .inl ⟨n, N, l', rfl, hl, rfl⟩
 all_goals
  simp only [ivs] at e
  split at e
  case h_2 => cases e
  rename_i x l' hx hl
  cases e
  exact .inr ⟨x, l', hx, hl, rfl⟩
theorem ivs_of {σ : Sg} : ∀ {cs : List AV} {l m : List Value}, Cs σ cs m → ivs σ.sy cs = some l → m = l
 | [], l, m, h, e => by
  simp only [Cs] at h
  cases e; exact h
 | v :: r, l, m, h, e => by
  rcases ivs_cons e with ⟨n, N, l', rfl, hl, rfl⟩ | ⟨x, l', hx, hl, rfl⟩
  ·rw [Cs_bs] at h
   obtain ⟨m', rfl, h⟩ := h
   rw [ivs_of h hl]
  ·rw [Cs_cons] at h
   rcases h with ⟨n, N, l'', rfl, rfl, h2⟩ | ⟨y, l'', rfl, rfl, h2⟩ | ⟨y, l'', rfl, h2, h3⟩
   ·cases hx
   ·cases hx
   ·rw [iv_of h2 hx, ivs_of h3 hl]
theorem vv_of {σ : Sg} {v : AV} {u x : Value} (h : V σ v u) (e : vv σ.sy v = some x) : u = x := by
 unfold vv at e
 split at e
 ·rename_i cs
  split at e
  case h_2 => cases e
  rename_i l hl
  cases e
  simp only [V] at h
  obtain ⟨m, hm, rfl⟩ := h
  rw [ivs_of hm hl]
 ·exact iv_of h e
theorem vvs_of {σ : Sg} : ∀ {cs : List AV} {l m : List Value}, Vs σ cs m → vvs σ.sy cs = some l → m = l
 | [], l, m, h, e => by
  simp only [Vs] at h
  cases e; exact h
 | v :: r, l, m, h, e => by
  unfold vvs at e
  split at e
  case h_2 => cases e
  rename_i x l' hx hl
  cases e
  simp only [Vs] at h
  obtain ⟨y, l'', rfl, h2, h3⟩ := h
  rw [vv_of h2 hx, vvs_of h3 hl]
theorem vt_of {σ : Sg} {v : AV} {u x : Value} (h : V σ v u) (e : vt σ.sy v = some x) : u = x := by
 unfold vt at e
 split at e
 ·split at e
  case h_2 => cases e
  rename_i l hl
  cases e
  simp only [V] at h
  obtain ⟨m, hm, rfl⟩ := h
  rw [vvs_of hm hl]
 ·exact vv_of h e
def one1 (x : Value) : Bool := x.oneCell'
theorem ivs_to {σ : Sg} : ∀ {cs : List AV} {l : List Value}, ivs σ.sy cs = some l → l.all one1 = true → Cs σ cs l
 | [], l, e, _ => by cases e; simp [Cs]
 | v :: r, l, e, ho => by
  rcases ivs_cons e with ⟨n, N, l', rfl, hl, rfl⟩ | ⟨x, l', hx, hl, rfl⟩
  ·simp only [List.all_append, Bool.and_eq_true] at ho
   rw [Cs_bs]
   exact ⟨l', rfl, ivs_to hl ho.2⟩
  ·simp only [List.all_cons, Bool.and_eq_true] at ho
   rw [Cs_cons]
   exact .inr (.inr ⟨x, l', rfl, iv_to hx ho.1, ivs_to hl ho.2⟩)
def one2 (v : AV) (x : Value) : Bool := match v, x with
 | .agg _, .agg l => l.toList.all one1
 | .agg _, _ => false
 | _, x => x.oneCell'
theorem vv_to {σ : Sg} {v : AV} {x : Value} (e : vv σ.sy v = some x) (h : one2 v x = true) : V σ v x := by
 unfold vv at e
 split at e
 ·rename_i cs
  split at e
  case h_2 => cases e
  rename_i l hl
  cases e
  simp only [V]
  exact ⟨l, ivs_to hl (by simpa [one2] using h), rfl⟩
 ·rename_i hn
  refine iv_to e ?_
  unfold one2 at h
  split at h
  ·exact (hn _ rfl).elim
  ·cases h
  ·exact h
def onesL : List AV → List Value → Bool
 | [], [] => true
 | v :: r, x :: l => match one2 v x with
  | true => onesL r l
  | false => false
 | _, _ => false
theorem vvs_to {σ : Sg} : ∀ {cs : List AV} {l : List Value}, vvs σ.sy cs = some l → onesL cs l = true → Vs σ cs l
 | [], l, e, _ => by cases e; simp [Vs]
 | v :: r, l, e, ho => by
  unfold vvs at e
  split at e
  case h_2 => cases e
  rename_i x l' hx hl
  cases e
  unfold onesL at ho
  split at ho
  case h_2 => cases ho
  rename_i h1
  simp only [Vs]
  exact ⟨x, l', rfl, vv_to hx h1, vvs_to hl ho⟩
section
variable {G : Gl} {P : Program}
end
end
end Go.Proofs.YtocabeobfbhajaaGreatDoor.Sx
end
section
namespace Go.Proofs.YtocabeobfbhajaaGreatDoor.Sx
noncomputable section
open Go Go.RowKit
variable {P : Program}
theorem MOK.load1 {G : Gl} {t : Nat} {b r : AV} (ht : t ≤ 9999) (h : MOK G P (8000000000 + t) [b] r) : ∀ (o : Oper) (x : Operand) (σ : Sg) (a : Act), σ.sy = G.sy → o.op = .load t x → V σ b (a.eval x) → ∀ w, OldAt G w → ∃ z, (execOp a.eval o).run P w = .ok (.value z) w ∧ V σ r z := by
 generalize htag : 8000000000 + t = tag at h
 cases h with
 | load t' b' r' ht' h =>
  have : t = t' := by omega
  subst this
  exact h
theorem MOK.load2 {G : Gl} {t b sz o c : Nat} {j r : AV} (ht : t ≤ 9999) (h : MOK G P (8000000000 + t) [.pls b sz j o, .sym c] r) : ∃ (l : Array Value) (jz : Nat), nz G.sy j = some (jz : Int) ∧ G.sy c = .agg l ∧
  ((∃ rs cs, r = .agg rs ∧ rowT P t cs.length = true ∧ (∀ i v, cs[i]? = some v → l[jz * sz + o + i]? = some v) ∧ ivs G.sy rs = some cs) ∨ (∃ x, oneT P t = true ∧ l[jz * sz + o]? = some x ∧ iv G.sy r = some x)) := by
 generalize htag : 8000000000 + t = tag at h
 cases h with
 | lrow t' b sz j o c rs cs l jz ht' hj hc hr hs hv =>
  have : t = t' := by omega
  subst this
  exact ⟨l, jz, hj, hc, .inl ⟨rs, cs, rfl, hr, hs, hv⟩⟩
 | lone t' b sz j o c r x l jz ht' hj hc hr hs hv =>
  have : t = t' := by omega
  subst this
  exact ⟨l, jz, hj, hc, .inr ⟨x, hr, hs, hv⟩⟩
theorem MOK.put {G : Gl} {t b sz o c : Nat} {j v r : AV} (ht : t ≤ 9999) (h : MOK G P (8000000000 + (100000000 + t)) [.pls b sz j o, .sym c, v] r) : ∃ (c' : Nat) (cs : List Value) (l l' : Array Value) (jz : Nat), r = .sym c' ∧ nz G.sy j = some (jz : Int) ∧ G.sy c = .agg l ∧ G.sy c' = .agg l' ∧ vcs G.sy v = some cs ∧ jz * sz + o + cs.length ≤ l.size ∧ l'.toList = l.toList.take (jz * sz + o) ++ (cs ++ l.toList.drop (jz * sz + o + cs.length)) := by
 generalize htag : 8000000000 + (100000000 + t) = tag at h
 cases h with
 | lput t' b sz j o c c' v cs l l' jz ht' hj hc hc' hv hin hs => exact ⟨c', cs, l, l', jz, rfl, hj, hc, hc', hv, hin, hs⟩
theorem MOK.app {G : Gl} {sz : Nat} {base src : List AV} {r : AV} (ht : sz ≤ 9999) (h : MOK G P (8000000000 + (200000000 + sz)) [.tup base, .tup src] r) : ∃ (n k : Nat) (L1 L2 : List Value) (c' : Nat) (ln' : AV), r = .tup [.sym c', ln'] ∧ Src G sz base n L1 ∧ (∀ c o ln l oz, base = [.sym c, o, ln] → G.sy c = .agg l → nz G.sy o = some ((oz : Nat) : Int) → (oz + n) * sz = l.size) ∧ Src G sz src k L2 ∧ G.sy c' = .agg (L1 ++ L2).toArray ∧ nz G.sy ln' = some ((n + k : Nat) : Int) ∧ n + k ≤ 1048576 := by
 generalize htag : 8000000000 + (200000000 + sz) = tag at h
 cases h with
 | lapp sz' base src n k L1 L2 c' ln' ht' h1 hfull h2 hc hl hb =>
  have : sz = sz' := by omega
  subst this
  exact ⟨n, k, L1, L2, c', ln', rfl, h1, hfull, h2, hc, hl, hb⟩
 | lapp1 sz' base src n k L1 L2 c' ln' ht' => omega
theorem MOK.app1 {G : Gl} {sz : Nat} {base src : List AV} {r : AV} (ht : sz ≤ 9999) (h : MOK G P (8000000000 + (300000000 + sz)) [.tup base, .tup src] r) : ∃ (n k : Nat) (L1 L2 : List Value) (c' : Nat) (ln' : AV), r = .tup [.sym c', ln'] ∧ Src G sz base n L1 ∧ Src G sz src k L2 ∧ 0 < k ∧ G.sy c' = .agg (L1 ++ L2).toArray ∧ nz G.sy ln' = some ((n + k : Nat) : Int) ∧ n + k ≤ 1048576 := by
 generalize htag : 8000000000 + (300000000 + sz) = tag at h
 cases h with
 | lapp sz' base src n k L1 L2 c' ln' ht' => omega
 | lapp1 sz' base src n k L1 L2 c' ln' ht' h1 h2 hk hc hl hb =>
  have : sz = sz' := by omega
  subst this
  exact ⟨n, k, L1, L2, c', ln', rfl, h1, h2, hk, hc, hl, hb⟩
theorem MOK.clr {G : Gl} {sz c : Nat} {o ln : AV} {zc : List AV} {r : AV} (ht : sz ≤ 9999) (h : MOK G P (8000000000 + (400000000 + sz)) [.tup [.sym c, o, ln], .agg zc] r) : ∃ (c' : Nat) (zv : List Value) (l l' : Array Value) (oz n : Nat), r = .sym c' ∧ G.sy c = .agg l ∧ G.sy c' = .agg l' ∧ nz G.sy o = some (oz : Int) ∧ nz G.sy ln = some (n : Int) ∧ ivs G.sy zc = some zv ∧ zv.length = sz ∧ oz * sz + n * sz ≤ l.size ∧ l'.toList = l.toList.take (oz * sz) ++ ((List.replicate n zv).flatten ++ l.toList.drop (oz * sz + n * sz)) := by
 generalize htag : 8000000000 + (400000000 + sz) = tag at h
 cases h with
 | lclr sz' c c' o ln zc zv l l' oz n ht' hc hc' ho hn hz hzl hin hs =>
  have : sz = sz' := by omega
  subst this
  exact ⟨c', zv, l, l', oz, n, rfl, hc, hc', ho, hn, hz, hzl, hin, hs⟩
theorem Src.length {G : Gl} {sz : Nat} {vs : List AV} {n : Nat} {L : List Value} (h : Src G sz vs n L) : L.length = n * sz := by
 cases h with
 | nil => simp
 | one rs cs k h hl => exact hl
 | sub c o ln l oz n hc ho hn hl =>
  unfold subL
  rw [List.length_take, List.length_drop, Array.length_toList]
  rw [Nat.add_mul] at hl
  omega
 | old i n κ a L h hl h1 hat => exact hl
def qlT (l : List QE) (G : Nat) (op : Op) (T : Tm) (s : St) : R AV := match op with
 | .load t x => (opd G T x).bind fun v => match Nat.ble t 9999 with
  | true => match v with
   | .pls b sz j o => match s.mem.get b with
    | some (.lst c _ _) => look l (Nat.add 8000000000 t) [.pls b sz j o, .sym c]
    | _ => .no 643
   | v => look l (Nat.add 8000000000 t) [v]
  | false => .no 644
 | _ => .no 641
theorem qlT_ok {G : Gl} {l : List QE} (hq : QsOK G P l) {o : Oper} {T : Tm} {s : St} {v : AV} (h : qlT l G o.op T s = .ok v) {σ : Sg} {a : Act} {w : World} (hd : Ds G σ s.ms w) (d : ∀ x ∈ o.op.operands, Od G σ (tget T) a x) :
  ∃ z, (execOp a.eval o).run P w = .ok (.value z) w ∧ V σ v z := by
 unfold qlT at h
 split at h
 case h_2 => cases h
 rename_i t x ho
 obtain ⟨u, h1, h⟩ := R.bind_ok h
 have hb := opd_ok h1 (d x (by rw [ho]; simp [Op.operands]))
 split at h
 case h_2 => cases h
 rename_i ht
 have ht' := Nat.le_of_ble_eq_true ht
 split at h
 ·rename_i b sz j off
  split at h
  case h_2 => cases h
  rename_i c _ _ hg
  obtain ⟨L, jz, g1, g2, g3⟩ := (look_mem hq h).load2 ht'
  simp only [V] at hb
  obtain ⟨jz', e1, p, hp, e2⟩ := hb
  rw [hd.sy, g1] at e1
  have : jz = jz' := by injection e1 with e1; omega
  subst this
  obtain ⟨ob, hob, cl, ty, fr, rfl, hfr, l', y, k1, k2, k3, k4, k5⟩ := hd.blkP hg hp
  rw [hd.sy, g2] at k1
  cases k1
  have hcell : ∀ i v, L[jz * sz + off + i]? = some v → w.cell? ⟨p.1, p.2 + jz * sz + off + i, none⟩ = some v := by
   intro i v hv
   simp only [World.cell?, hob, Option.isSome_none, Bool.false_eq_true, if_false]
   have := k5 _ _ hv
   rw [show p.2 + jz * sz + off + i = p.2 + (jz * sz + off + i) by omega]
   exact this
  obtain ⟨dst, op, ty, pos, after, guard⟩ := o
  simp only at ho
  subst ho
  rcases g3 with ⟨rs, cs, rfl, m1, m2, m3⟩ | ⟨z, m1, m2, m3⟩
  ·have hone : cs.all one1 = true := by
    rw [List.all_eq_true]
    intro v hv
    obtain ⟨i, hi, rfl⟩ := List.mem_iff_getElem.1 hv
    have := m2 i _ (List.getElem?_eq_getElem hi)
    exact k2 _ (List.mem_of_getElem? (by rw [Array.getElem?_toList]; exact this))
   unfold rowT at m1
   split at m1
   case h_2 => cases m1
   rename_i td inf htd hinf
   split at m1
   case h_2 => cases m1
   rename_i hrow
   have hsz := Nat.eq_of_beq_eq_true m1
   refine ⟨.agg cs.toArray, run_v ?_, by simp only [V]; exact ⟨cs, ivs_to (by rw [hd.sy]; exact m3) hone, rfl⟩⟩
   rw [e2]
   exact run_loadAt_mid w p.1 (p.2 + jz * sz + off) t cs td (fun i v hv => hcell i v (m2 i v hv)) htd (by cases td <;> first | rfl | cases hrow) (by rw [hinf]; simp [hsz])
  ·unfold oneT at m1
   split at m1
   case h_2 => cases m1
   rename_i td htd
   split at m1
   case h_1 => cases m1
   rename_i hrow
   refine ⟨z, run_v ?_, iv_to (by rw [hd.sy]; exact m3) (k2 _ (List.mem_of_getElem? (by rw [Array.getElem?_toList]; exact m2)))⟩
   have hc := hcell 0 z (by simpa using m2)
   rw [e2]
   simp only [Instr.loadAt, Instr.sureAddr, Sem.run_bind, Sem.run_pure, Result.andThen_ok, loadVar, run_isAgg htd, hrow, Bool.false_eq_true, if_false, run_load]
   rw [Nat.add_zero] at hc
   rw [hc]
 ·exact (look_mem hq h).load1 ht' o x σ a hd.sy ho hb w fun k hk => ⟨(hd.old k hk).1, (hd.old k hk).2.1⟩
theorem Ds.write {G : Gl} {σ : Sg} {M : MS} {w w' : World} (d : Ds G σ M w) {b : Nat} {ab0 ab : AB} {p : Nat × Nat} (hg : M.g b = some ab0) (hp : σ.bl b = some p) (hc : Chg (fun k => k = p.1) w w') (hb : BD σ p ab w') :
  Ds G σ ⟨fun n => if n = b then some ab else M.g n, M.nx, M.nc⟩ w' ∧ Ex σ M w σ ⟨fun n => if n = b then some ab else M.g n, M.nx, M.nc⟩ w' := by
 have hoth : ∀ n ab q, n ≠ b → M.g n = some ab → σ.bl n = some q → q.1 ≠ p.1 := fun n ab q hn h1 h2 => d.inj n b _ _ q p hn h1 hg h2 hp
 have hthere : ∀ n a, (if n = b then some ab else M.g n) = some a → ∃ a', M.g n = some a' := by
  intro n a h
  split at h
  ·rename_i e; subst e; exact ⟨_, hg⟩
  ·exact ⟨_, h⟩
 refine DE (fun hex => ⟨?_, ?_, d.fresh, d.freshC, d.glob, d.sy, d.old.next hex.im hex.chg⟩) ⟨fun n hn => rfl, fun _ _ => rfl, rfl, Nat.le_refl _, Nat.le_refl _, ?_, hc.mono fun k _ e => ⟨b, ab0, p, hg, hp, e.symm⟩⟩
 ·intro n a h
  change (if n = b then some ab else M.g n) = some a at h
  split at h
  ·rename_i e; cases h; subst e; exact .inl ⟨p, hp, hb⟩
  ·rename_i e
   rcases d.blk n a h with ⟨q, hq, ob, ho, hbo⟩ | f
   ·exact .inl ⟨q, hq, ob, by rw [hc.block q.1 (lt_of_get ho) (hoth n a q e h hq)]; exact ho, hbo⟩
   ·exact .inr f
 ·intro n k a a' q q' hnk h1 h2 hq hq'
  obtain ⟨_, h1⟩ := hthere n a h1
  obtain ⟨_, h2⟩ := hthere k a' h2
  exact d.inj n k _ _ q q' hnk h1 h2 hq hq'
 ·rintro k ⟨n, a, q, h, hq, rfl⟩
  obtain ⟨_, h⟩ := hthere n a h
  exact .inr ⟨n, _, q, h, hq, rfl⟩
theorem Ds.addNil {G : Gl} {σ : Sg} {M : MS} {w : World} (d : Ds G σ M w) {ab : AB} (h : NL σ ab) :
  Ds G σ ⟨fun n => if n = M.nx then some ab else M.g n, M.nx + 1, M.nc + 1⟩ w ∧ Ex σ M w σ ⟨fun n => if n = M.nx then some ab else M.g n, M.nx + 1, M.nc + 1⟩ w := by
 have hf : σ.bl M.nx = none := d.fresh _ (Nat.le_refl _)
 refine DE (fun hex => ⟨?_, ?_, fun n hn => d.fresh n (Nat.le_of_succ_le hn), fun n hn => d.freshC n (Nat.le_of_succ_le hn), d.glob, d.sy, d.old.next hex.im hex.chg⟩) ⟨fun n hn => rfl, fun _ _ => rfl, rfl, Nat.le_succ _, Nat.le_succ _, ?_, Chg.refl _ _⟩
 ·intro n a h1
  change (if n = M.nx then some ab else M.g n) = some a at h1
  split at h1
  ·rename_i e; cases h1; subst e; exact .inr ⟨hf, Nat.lt_succ_self _, h⟩
  ·rcases d.blk n a h1 with e | ⟨e1, e2, e3⟩
   ·exact .inl e
   ·exact .inr ⟨e1, Nat.lt_succ_of_lt e2, e3⟩
 ·intro n k a a' q q' hnk h1 h2 hq hq'
  change (if n = M.nx then some ab else M.g n) = some a at h1
  change (if k = M.nx then some ab else M.g k) = some a' at h2
  have hn : n ≠ M.nx := by rintro rfl; rw [hf] at hq; cases hq
  have hk : k ≠ M.nx := by rintro rfl; rw [hf] at hq'; cases hq'
  rw [if_neg hn] at h1
  rw [if_neg hk] at h2
  exact d.inj n k a a' q q' hnk h1 h2 hq hq'
 ·rintro k ⟨n, a, q, h1, hq, rfl⟩
  change (if n = M.nx then some ab else M.g n) = some a at h1
  have hn : n ≠ M.nx := by rintro rfl; rw [hf] at hq; cases hq
  rw [if_neg hn] at h1
  exact .inr ⟨n, a, q, h1, hq, rfl⟩
theorem vcs_of {σ : Sg} {v : AV} {x : Value} {cs : List Value} (h : V σ v x) (e : vcs σ.sy v = some cs) : x.cells.toList = cs := by
 unfold vcs at e
 split at e
 ·simp only [V] at h
  obtain ⟨m, hm, rfl⟩ := h
  rw [← ivs_of hm e]
  simp [Value.cells]
 ·rename_i hn
  split at e
  case h_2 => cases e
  rename_i y hy
  cases e
  have := iv_of h hy
  subst this
  cases v <;> simp only [iv, Option.some.injEq, reduceCtorEq] at hy <;> (try exact (hn _ rfl).elim)
  case sym i =>
   simp only [V] at h
   have := h.2
   cases x <;> first | rfl | simp [Value.oneCell'] at this
  all_goals (subst hy; rfl)
theorem onesA_vcs {σ : Sg} {v : AV} {x : Value} {bs0 : List AV} (e : cellsA v = .ok bs0) (h : V σ v x) (ho : onesA bs0 = true) : ∀ y ∈ x.cells.toList, y.oneCell' = true := onesA_ok _ _ ho (cellsA_ok e h)
def srcA (s : St) (sz : Nat) : AV → R (List AV)
 | .ns => .ok []
 | .sl b o n _ _ => (ldc s b o (Nat.mul n sz)).bind fun cs => match onesA cs, Nat.ble 1 sz with
  | true, true => .ok [.agg cs]
  | _, _ => .no 650
 | .sls b sz' o ln _ => match Nat.beq sz sz', s.mem.get b with
  | true, some (.lst c _ _) => .ok [.sym c, o, ln]
  | _, _ => .no 651
 | .sym i => .ok [.sym i]
 | _ => .no 652
theorem first0 (aa : Option Addr) (sz κ : Nat) (w : World) : (Builtin.firstCells sz 0 (.slice aa 0 κ)).run P w = .ok #[] w := by
 cases aa with
 | none => rfl
 | some a =>
  have := run_loadCells_list (P := P) w a [] (fun j v hv => by simp at hv)
  simpa [Builtin.firstCells] using this
theorem srcA_ok {G : Gl} {σ : Sg} {s : St} {w : World} (hd : Ds G σ s.ms w) {sz k : Nat} {y : AV} {u : Value} {src : List AV} {L : List Value} (h : srcA s sz y = .ok src) (hy : V σ y u) (hS : Src G sz src k L) :
  ∃ base κ, u = .slice base k κ ∧ (∀ x ∈ L, x.oneCell' = true) ∧ ∀ w' : World, w'.heap = w.heap → ∀ κ', (Builtin.firstCells sz k (.slice base k κ')).run P w' = .ok L.toArray w' := by
 unfold srcA at h
 split at h
 ·cases h
  cases hS
  simp only [V] at hy
  exact ⟨none, 0, hy, by simp, fun w' _ κ' => by simp [Builtin.firstCells]⟩
 ·rename_i b o n c x
  obtain ⟨cs, h1, h⟩ := R.bind_ok h
  split at h
  case h_2 => cases h
  rename_i ho hsz
  have hsz' := Nat.le_of_ble_eq_true hsz
  cases h
  cases hS with
  | one rs cs' k' e hl =>
   obtain ⟨p, l, hp, hl1, hlen, hrg⟩ := ldc_ok hd h1
   have := ivs_of hl1 (by rw [hd.sy]; exact e)
   subst this
   simp only [V] at hy
   obtain ⟨q, κ, hq, e2, _⟩ := hy
   rw [hp] at hq; cases hq
   have hkn : k = n := by
    rw [hlen, Nat.mul_eq] at hl
    exact (Nat.eq_of_mul_eq_mul_right (by omega) hl).symm
   subst hkn
   refine ⟨_, κ, e2, onesA_ok _ _ ho hl1, fun w' hw κ' => ?_⟩
   have c2 := run_loadCells_list (P := P) w' ⟨p.1, p.2 + o, none⟩ l (fun j v hv => by rw [Addr.add_mid]; have := hrg j v hv; simp only [World.cell?, hw] at this ⊢; exact this)
   rw [hl] at c2
   simp only [Builtin.firstCells]
   exact c2
 ·rename_i b sz' o ln x
  split at h
  case h_2 => cases h
  rename_i c _ _ hb hg
  have hb' := Nat.eq_of_beq_eq_true hb
  subst hb'
  cases h
  cases hS with
  | sub c o ln l oz n hc ho hn hl =>
   simp only [V] at hy
   obtain ⟨oz', n', e1, e2, hy⟩ := hy
   rw [hd.sy, ho] at e1
   rw [hd.sy, hn] at e2
   have h1 : oz = oz' := by injection e1 with e1; omega
   have h2 : k = n' := by injection e2 with e2; omega
   subst h1; subst h2
   rcases hy with ⟨h0, aa, rfl⟩ | ⟨p, κ, hp, rfl, hk⟩
   ·subst h0
    exact ⟨aa, 0, rfl, by simp [subL], fun w' _ κ' => by rw [first0]; simp [subL]⟩
   ·obtain ⟨ob, hob, cl, ty, fr, rfl, hfr, l', y, k1, k2, k3, k4, k5⟩ := hd.blkP hg hp
    rw [hd.sy, hc] at k1
    cases k1
    refine ⟨_, κ, rfl, fun x hx => k2 x (List.mem_of_mem_drop (List.mem_of_mem_take hx)), fun w' hw κ' => ?_⟩
    have hlen : (subL l.toList (oz * sz) (k * sz)).length = k * sz := by
     unfold subL
     rw [List.length_take, List.length_drop, Array.length_toList]
     rw [Nat.add_mul] at hl
     omega
    have c2 := run_loadCells_list (P := P) w' ⟨p.1, p.2 + oz * sz, none⟩ (subL l.toList (oz * sz) (k * sz)) (fun j v hv => by
     rw [Addr.add_mid]
     simp only [World.cell?, hw, hob, Option.isSome_none, Bool.false_eq_true, if_false]
     unfold subL at hv
     rw [List.getElem?_take] at hv
     split at hv
     ·rw [List.getElem?_drop, Array.getElem?_toList] at hv
      have := k5 _ _ hv
      rw [Nat.add_assoc]; exact this
     ·cases hv)
    rw [hlen] at c2
    simp only [Builtin.firstCells]
    exact c2
 ·rename_i i
  cases h
  cases hS with
  | old i n κ a L h hl h1 hat =>
   simp only [V] at hy
   have hu : u = .slice a k κ := by rw [hy.1, hd.sy]; exact h
   refine ⟨a, κ, hu, h1, fun w' hw κ' => ?_⟩
   rcases hat with rfl | ⟨b, o, rfl, hb, c, t, fr, g1, g2⟩
   ·have h0 : k * sz = 0 := by simpa using hl.symm
    cases a with
    | none => simp [Builtin.firstCells]
    | some a =>
     have c2 := run_loadCells_list (P := P) w' a [] (fun j v hv => by simp at hv)
     simp only [Builtin.firstCells, h0]
     exact c2
   ·have hold := (hd.old b hb).2.1
    have c2 := run_loadCells_list (P := P) w' ⟨b, o, none⟩ L (fun j v hv => by
     rw [Addr.add_mid]
     simp only [World.cell?, hw, hold, g1, Option.isSome_none, Bool.false_eq_true, if_false]
     exact g2 j v hv)
    rw [hl] at c2
    simp only [Builtin.firstCells]
    exact c2
 ·cases h
def newL (s : St) (sz : Nat) : AV → R (AV × St)
 | .tup [.sym c', ln'] => match Nat.ble s.nx topName with
  | true => .ok (.sls s.nx sz (.int .i64 (.ofNat 0)) ln' (Nat.succ (Nat.succ s.nc)), { mem := Mm.put (some (.lst c' sz (Nat.succ s.nc))) s.mem s.nx, nx := Nat.succ s.nx, nc := Nat.succ s.nc })
  | false => .no 653
 | _ => .no 654
theorem newL_ok {s : St} {sz c' : Nat} {ln' : AV} {r : AV × St} (h : newL s sz (.tup [.sym c', ln']) = .ok r) : s.nx ≤ topName ∧ r = (.sls s.nx sz (.int .i64 (.ofNat 0)) ln' (Nat.succ (Nat.succ s.nc)), { mem := Mm.put (some (.lst c' sz (Nat.succ s.nc))) s.mem s.nx, nx := Nat.succ s.nx, nc := Nat.succ s.nc }) := by
 simp only [newL] at h
 split at h
 case h_2 => cases h
 rename_i hb
 exact ⟨Nat.le_of_ble_eq_true hb, (R.ok.inj h).symm⟩
theorem newL_ms {s : St} {sz c' : Nat} (hx : s.nx ≤ topName) : ({ mem := Mm.put (some (.lst c' sz (Nat.succ s.nc))) s.mem s.nx, nx := Nat.succ s.nx, nc := Nat.succ s.nc } : St).ms = ⟨fun m => if m = s.nx then some (.lst c' sz (s.nc + 1)) else s.mem.get m, s.nx + 1, s.nc + 1⟩ := by
 unfold St.ms
 congr 1
 funext m
 exact Mm.get_put _ _ s.nx m (by unfold topName at hx; omega)
theorem grownL {G : Gl} {σ : Sg} {s : St} {w : World} {L : List Value} {e : TypeId} {sz m c' : Nat} {ln' : AV} {z : Value} {r : AV × St} (hd : Ds G σ s.ms w) (hc : G.sy c' = .agg L.toArray) (h1 : ∀ x ∈ L, x.oneCell' = true) (hz : z.cells.size = sz) (hL : L.length = m * sz) (hl : nz G.sy ln' = some (m : Int)) (e' : Nat)
  (h : newL s sz (.tup [.sym c', ln']) = .ok r) :
  ∃ σ', V σ' r.1 (.slice (some ⟨w.heap.size, 0, none⟩) m (m + e')) ∧ Ds G σ' r.2.ms (w.drew.alloc (.cells (L ++ (Builtin.zeroCells z.cells e').toList).toArray e)) ∧ Ex σ s.ms w σ' r.2.ms (w.drew.alloc (.cells (L ++ (Builtin.zeroCells z.cells e').toList).toArray e)) := by
 obtain ⟨hx, rfl⟩ := newL_ok h
 obtain ⟨d1, x1⟩ := hd.setC e'
 have hb : BO ((σ.setC s.nc e').set s.nx (w.drew.heap.size, 0)) 0 (.lst c' sz (Nat.succ s.nc)) (.cells (L ++ (Builtin.zeroCells z.cells e').toList).toArray e) := by
  refine ⟨_, e, (0, 0), rfl, .inl rfl, L.toArray, e' * sz, hd.sy ▸ hc, by simpa using h1, .inr ⟨s.nc, e', rfl, setC_at _ _ _, rfl⟩, ?_, ?_⟩
  ·simp only [List.size_toArray, List.length_append, Array.length_toList, size_zeroCells', hz]; omega
  ·intro i v hv
   rw [List.getElem?_toArray] at hv
   rw [Nat.zero_add, List.getElem?_toArray, List.getElem?_append_left (List.getElem?_eq_some_iff.1 hv).1]
   exact hv
 have hpush : ({ s with nc := Nat.succ s.nc } : St).push (.lst c' sz (Nat.succ s.nc)) = .ok (s.nx, { mem := Mm.put (some (.lst c' sz (Nat.succ s.nc))) s.mem s.nx, nx := Nat.succ s.nx, nc := Nat.succ s.nc }) := by
  unfold St.push
  rw [show Nat.ble ({ s with nc := Nat.succ s.nc } : St).nx topName = true from Nat.ble_eq_true_of_le hx]
 obtain ⟨e1, d2, x2, _, hn⟩ := push_ok (d1.drew) hpush hb
 refine ⟨_, ?_, d2, x1.trans x2.toDrew⟩
 simp only [V]
 refine ⟨0, m, rfl, ?_, .inr ⟨(w.heap.size, 0), m + e', hn, by simp, .inr (.inr ⟨s.nc, e', rfl, setC_at _ _ _, rfl⟩)⟩⟩
 show nz σ.sy ln' = _
 rw [hd.sy]; exact hl
theorem nilL {G : Gl} {σ : Sg} {s : St} {w : World} {sz c' : Nat} {ln' : AV} {r : AV × St} (hd : Ds G σ s.ms w) (hc : G.sy c' = .agg #[]) (hl : nz G.sy ln' = some ((0 : Nat) : Int)) (h : newL s sz (.tup [.sym c', ln']) = .ok r) :
  (∀ aa, V σ r.1 (.slice aa 0 0)) ∧ Ds G σ r.2.ms w ∧ Ex σ s.ms w σ r.2.ms w := by
 obtain ⟨hx, rfl⟩ := newL_ok h
 obtain ⟨d2, x2⟩ := hd.addNil (ab := .lst c' sz (s.nc + 1)) (by show σ.sy c' = _; rw [hd.sy]; exact hc)
 have hms := newL_ms (s := s) (sz := sz) (c' := c') hx
 refine ⟨fun aa => ?_, by rw [hms]; exact d2, by rw [hms]; exact x2⟩
 simp only [V]
 exact ⟨0, 0, rfl, by rw [hd.sy]; exact hl, .inl ⟨rfl, aa, rfl⟩⟩
theorem Ds.less {G : Gl} {σ : Sg} {s : St} {w : World} (hd : Ds G σ s.ms w) {b : Nat} (hb : b ≤ topName) : Ds G σ ({ s with mem := Mm.put none s.mem b } : St).ms w ∧ (∀ {σ' : Sg} {M' : MS} {w' : World}, Ex σ ({ s with mem := Mm.put none s.mem b } : St).ms w σ' M' w' → Ex σ s.ms w σ' M' w') := by
 have hget : ∀ m, (Mm.put none s.mem b).get m = if m = b then none else s.mem.get m := fun m => Mm.get_put none s.mem b m (by unfold topName at hb; omega)
 have hsub : ∀ m ab, ({ s with mem := Mm.put none s.mem b } : St).ms.g m = some ab → s.ms.g m = some ab := by
  intro m ab hm
  change (Mm.put none s.mem b).get m = some ab at hm
  rw [hget] at hm
  split at hm
  ·cases hm
  ·exact hm
 exact ⟨hd.sub hsub rfl rfl, fun x => ⟨x.bl, x.cp, x.sy, x.nx, x.nc, fun m hm => (x.im m hm).imp id (Im.sub hsub), x.chg.mono fun m _ hm => Im.sub hsub hm⟩⟩
def appT (l : List QE) (G : Nat) (P : Program) (T : Tm) (s : St) (x y : Operand) (e : TypeId) : R (AV × St) := match P.info? e with
 | none => .no 655
 | some i => (zCs P e i.size).bind fun _ => (opd G T x).bind fun x => (opd G T y).bind fun y => (srcA s i.size y).bind fun src => match Nat.ble i.bytes 1048576, Nat.ble i.size 9999 with
  | true, true => match x with
   | .ns => (look l (Nat.add 8000000000 (Nat.add 200000000 i.size)) [.tup [], .tup src]).bind (newL s i.size)
   | .sls b sz o ln xx => match Nat.beq i.size sz, s.mem.get b with
    | true, some (.lst c sz2 x2) => match xx with
     | 0 => (look l (Nat.add 8000000000 (Nat.add 300000000 i.size)) [.tup [.sym c, o, ln], .tup src]).bind (newL s i.size)
     | 1 => .no 656
     | j + 2 => match Nat.beq x2 (Nat.succ j), Nat.beq sz2 i.size, Nat.ble b topName with
      | true, true, true => (look l (Nat.add 8000000000 (Nat.add 200000000 i.size)) [.tup [.sym c, o, ln], .tup src]).bind (newL { s with mem := Mm.put none s.mem b } i.size)
      | _, _, _ => .no 657
    | _, _ => .no 658
   | .sl b o n cc 0 => match Nat.beq n cc with
    | true => (srcA s i.size (.sl b o n cc 0)).bind fun base => (look l (Nat.add 8000000000 (Nat.add 300000000 i.size)) [.tup base, .tup src]).bind (newL s i.size)
    | false => .no 659
   | _ => .no 661
  | _, _ => .no 662
theorem appT_ok {G : Gl} {l : List QE} (hq : QsOK G P l) {T : Tm} {s : St} {x y : Operand} {t ty rt e : TypeId} {td : TypeDesc} {r : AV × St} {σ : Sg} {a : Act} {w : World} (ht : P.underlying t = some (.slice e)) (hty : P.underlying ty = some td) (hn' : ∀ kk, td ≠ .int kk) (h : appT l G P T s x y e = .ok r) (hd : Ds G σ s.ms w) (dx : Od G σ (tget T) a x) (dy : Od G σ (tget T) a y) :
  Did G P σ s w (((do pure (Next.value (← Builtin.append_ #[t, ty] rt #[a.eval x, a.eval y])) : Sem Next)).run P w) r := by
 unfold appT at h
 split at h
 ·cases h
 rename_i i hi
 obtain ⟨z, h0, ha⟩ := R.bind_ok h; clear h
 obtain ⟨xv, h1, hb⟩ := R.bind_ok ha; clear ha
 obtain ⟨yv, h2, ha⟩ := R.bind_ok hb; clear hb
 obtain ⟨src, h3, h⟩ := R.bind_ok ha; clear ha
 have hx := opd_ok h1 dx
 have hy := opd_ok h2 dy
 split at h
 case h_2 => cases h
 rename_i hbytes hsize
 have hbytes' := Nat.le_of_ble_eq_true hbytes
 have hsize' := Nat.le_of_ble_eq_true hsize
 obtain ⟨zv, z1, z2, z3, z4⟩ := zCs_ok h0 w
 have hz : ∀ w' : World, (zeroValue e).run P w' = .ok zv w' := by
  intro w'
  obtain ⟨v', z1', _⟩ := zCs_ok h0 w'
  have : v' = zv := by
   simp only [zeroValue, typeInfo, Sem.run_bind, run_program, Result.andThen_ok, hi, Sem.run_pure] at z1 z1'
   cases hzz : i.zero with
   | none => rw [hzz] at z1; cases z1
   | some q => rw [hzz] at z1 z1'; cases z1; cases z1'; rfl
  rw [← this]; exact z1'
 have hbb : ∀ n k, n + k ≤ 1048576 → 2 * (n + k) * i.bytes ≤ 281474976710656 := by
  intro n k hnk
  calc 2 * (n + k) * i.bytes ≤ 2 * 1048576 * 1048576 := Nat.mul_le_mul (by omega) hbytes'
   _ ≤ 281474976710656 := by decide
 -- a new row behind what is read at a base
 have grow : ∀ (s0 : St) (hd0 : Ds G σ s0.ms w) (base : Option Addr) (n κ k : Nat) (L1 L2 : List Value) (c' : Nat) (ln' : AV) (u : Value), a.eval x = .slice base n κ → a.eval y = u → (∃ bb κ', u = .slice bb k κ' ∧ (∀ x ∈ L2, x.oneCell' = true) ∧ ∀ w' : World, w'.heap = w.heap → ∀ κ'', (Builtin.firstCells i.size k (.slice bb k κ'')).run P w' = .ok L2.toArray w') →
   (∀ x ∈ L1, x.oneCell' = true) → (∀ w' : World, w'.heap = w.heap → (Builtin.firstCells i.size n (.slice base n κ)).run P w' = .ok L1.toArray w') → κ < n + k → n + k ≤ 1048576 → L1.length = n * i.size → L2.length = k * i.size → G.sy c' = .agg (L1 ++ L2).toArray → nz G.sy ln' = some ((n + k : Nat) : Int) →
   newL s0 i.size (.tup [.sym c', ln']) = .ok r → (∀ {σ' : Sg} {M' : MS} {w' : World}, Ex σ s0.ms w σ' M' w' → Ex σ s.ms w σ' M' w') → Did G P σ s w (((do pure (Next.value (← Builtin.append_ #[t, ty] rt #[a.eval x, a.eval y])) : Sem Next)).run P w) r := by
  intro s0 hd0 base n κ k L1 L2 c' ln' u ex ey hu hL1 hf1 hκ hnk hl1 hl2 hc hl hnew hback
  obtain ⟨bb, κ', eu, hL2, hf2⟩ := hu
  rw [eu] at ey
  rw [ex, ey]
  obtain ⟨e', hrun⟩ := run_append_grow (rt := rt) (base := base) (n := n) (κ := κ) (k := k) (y := .slice bb k κ') (l := L2) (old := L1) ht hty hn' hi rfl (fun w' hw => hf2 w' hw κ') hf1 hz hκ (hbb n k hnk) (by omega)
  obtain ⟨σ', g1, g2, g3⟩ := grownL (e := e) (L := L1 ++ L2) (m := n + k) hd0 hc (by
   intro x hx
   rcases List.mem_append.1 hx with hx | hx
   ·exact hL1 x hx
   ·exact hL2 x hx) z3 (by rw [List.length_append, hl1, hl2, Nat.add_mul]) hl e' hnew
  exact ⟨σ', _, _, .inl (run_v hrun), g1, g2, hback g3⟩
 -- nothing, and nothing behind it
 have nils : ∀ (s0 : St) (hd0 : Ds G σ s0.ms w) (c' : Nat) (ln' : AV), (∃ aa, a.eval x = .slice aa 0 0) → (∃ bb κ', a.eval y = .slice bb 0 κ') → G.sy c' = .agg #[] → nz G.sy ln' = some ((0 : Nat) : Int) → newL s0 i.size (.tup [.sym c', ln']) = .ok r → (∀ {σ' : Sg} {M' : MS} {w' : World}, Ex σ s0.ms w σ' M' w' → Ex σ s.ms w σ' M' w') →
   Did G P σ s w (((do pure (Next.value (← Builtin.append_ #[t, ty] rt #[a.eval x, a.eval y])) : Sem Next)).run P w) r := by
  intro s0 hd0 c' ln' ⟨aa, ex⟩ ⟨bb, κ', ey⟩ hc hl hnew hback
  rw [ex, ey]
  have hf : (Builtin.firstCells i.size 0 (.slice bb 0 κ')).run P w = .ok ([] : List Value).toArray w := first0 bb _ _ w
  have hrun := run_append_in (rt := rt) (base := aa) (n := 0) (κ := 0) (k := 0) (y := .slice bb 0 κ') (l := []) (w := w) ht hty hn' hi rfl hf (by omega)
  obtain ⟨g1, g2, g3⟩ := nilL hd0 hc hl hnew
  refine ⟨σ, .slice aa 0 0, w, .inl (run_v (by rw [hrun]; cases aa <;> simp [storeCells])), g1 aa, g2, hback g3⟩
 split at h
 case h_4 => cases h
 ·-- nil
  obtain ⟨q, h4, h⟩ := R.bind_ok h
  obtain ⟨n, k, L1, L2, c', ln', rfl, s1, _, s2, hc, hl, hnk⟩ := (look_mem (t := 200000000 + i.size) hq h4).app hsize'
  cases s1
  simp only [V] at hx
  have hsrc := srcA_ok (P := P) hd h3 hy s2
  rcases Nat.eq_zero_or_pos k with hk | hk
  ·subst hk
   obtain ⟨bb, κ', e1, _, _⟩ := hsrc
   have := s2.length
   rw [Nat.zero_mul] at this
   have := List.eq_nil_of_length_eq_zero this
   subst this
   exact nils s hd c' ln' ⟨none, hx⟩ ⟨bb, κ', e1⟩ hc hl h id
  ·exact grow s hd none 0 0 k [] L2 c' ln' _ hx rfl hsrc (by simp) (fun w' _ => by simp [Builtin.firstCells]) (by omega) hnk (by simp) s2.length hc hl h id
 ·-- a list
  rename_i b sz o ln xx
  split at h
  case h_2 => cases h
  rename_i c sz2 x2 hsz hg
  have hsz' := Nat.eq_of_beq_eq_true hsz
  subst hsz'
  simp only [V] at hx
  obtain ⟨oz, n, e1, e2, hx⟩ := hx
  rw [hd.sy] at e1 e2
  split at h
  case h_2 => cases h
  ·-- no room
   obtain ⟨q, h4, h⟩ := R.bind_ok h
   obtain ⟨n', k, L1, L2, c', ln', rfl, s1, s2, hk, hc, hl, hnk⟩ := (look_mem (t := 300000000 + i.size) hq h4).app1 hsize'
   have hsrc := srcA_ok (P := P) hd h3 hy s2
   have hbase := srcA_ok (P := P) (y := .sls b i.size o ln 0) (u := a.eval x) (src := [.sym c, o, ln]) hd (by simp only [srcA, Nat.beq_refl, hg]) (by simp only [V]; exact ⟨oz, n, by rw [hd.sy]; exact e1, by rw [hd.sy]; exact e2, hx⟩) s1
   obtain ⟨bb, κ, eb, hL1, hf1⟩ := hbase
   have hκ : κ = n' := by
    rcases hx with ⟨h0, aa, hx⟩ | ⟨p, κ1, hp, hx, hK⟩
    ·rw [hx] at eb; cases eb; rfl
    ·rw [hx] at eb
     cases eb
     rcases hK with ⟨_, hK⟩ | ⟨hK, _⟩ | ⟨j, e, hK, _, _⟩
     ·exact hK
     ·cases hK
     ·cases hK
   exact grow s hd bb n' κ k L1 L2 c' ln' _ eb rfl hsrc hL1 (fun w' hw => hf1 w' hw κ) (by omega) hnk s1.length s2.length hc hl h id
  ·-- room that is not known
   rename_i j
   split at h
   case h_2 => cases h
   rename_i b1 b2 b3
   have b1' := Nat.eq_of_beq_eq_true b1
   have b2' := Nat.eq_of_beq_eq_true b2
   have b3' := Nat.le_of_ble_eq_true b3
   subst b1'; subst b2'
   obtain ⟨q, h4, h⟩ := R.bind_ok h
   obtain ⟨n', k, L1, L2, c', ln', rfl, s1, hfull, s2, hc, hl, hnk⟩ := (look_mem (t := 200000000 + i.size) hq h4).app hsize'
   have hsrc := srcA_ok (P := P) hd h3 hy s2
   have hl1 := s1.length
   have hl2 := s2.length
   obtain ⟨hd0, hback⟩ := hd.less b3'
   cases s1 with
   | sub c o ln l oz' n'' hc1 ho hn hll =>
   rw [ho] at e1
   rw [hn] at e2
   have t1 : oz' = oz := by injection e1 with e1; omega
   have t2 : n' = n := by injection e2 with e2; omega
   subst t1; subst t2
   have hsz0 := hfull c o ln l oz' rfl hc1 ho
   rcases hx with ⟨h0, aa, hx⟩ | ⟨p, κ, hp, hx, hK⟩
   ·subst h0
    have hL1 : subL l.toList (oz' * i.size) (0 * i.size) = [] := by simp [subL]
    rw [hL1] at hc
    rcases Nat.eq_zero_or_pos k with hk | hk
    ·subst hk
     obtain ⟨bb, κ', e3, _, _⟩ := hsrc
     rw [Nat.zero_mul] at hl2
     have := List.eq_nil_of_length_eq_zero hl2
     subst this
     exact nils _ hd0 c' ln' ⟨aa, hx⟩ ⟨bb, κ', e3⟩ hc hl h hback
    ·exact grow _ hd0 aa 0 0 k [] L2 c' ln' _ hx rfl hsrc (by simp) (fun w' _ => first0 aa _ _ w') (by omega) hnk (by simp) hl2 hc hl h hback
   ·obtain ⟨ob, hob, cl, tyc, fr, rfl, hfr, l', yy, k1, k2, k3, k4, k5⟩ := hd.blkP hg hp
    rw [hd.sy, hc1] at k1
    cases k1
    have hL1 : ∀ x ∈ subL l.toList (oz' * i.size) (n' * i.size), x.oneCell' = true := fun x hx => k2 x (List.mem_of_mem_drop (List.mem_of_mem_take hx))
    have hcells : ∀ m v, (subL l.toList (oz' * i.size) (n' * i.size))[m]? = some v → cl[p.2 + oz' * i.size + m]? = some v := by
     intro m v hv
     unfold subL at hv
     rw [List.getElem?_take] at hv
     split at hv
     ·rw [List.getElem?_drop, Array.getElem?_toList] at hv
      rw [Nat.add_assoc]; exact k5 _ _ hv
     ·cases hv
    have hf1 : ∀ w' : World, w'.heap = w.heap → (Builtin.firstCells i.size n' (.slice (some ⟨p.1, p.2 + oz' * i.size, none⟩) n' κ)).run P w' = .ok (subL l.toList (oz' * i.size) (n' * i.size)).toArray w' := by
     intro w' hw
     have c2 := run_loadCells_list (P := P) w' ⟨p.1, p.2 + oz' * i.size, none⟩ (subL l.toList (oz' * i.size) (n' * i.size)) (fun j v hv => by
      rw [Addr.add_mid]
      simp only [World.cell?, hw, hob, Option.isSome_none, Bool.false_eq_true, if_false]
      exact hcells j v hv)
     rw [hl1] at c2
     simp only [Builtin.firstCells]
     exact c2
    by_cases hroom : n' + k ≤ κ
    ·-- in place
     obtain ⟨e0, hce, hκe⟩ : ∃ e0, σ.cp j = some e0 ∧ κ = n' + e0 := by
      rcases hK with ⟨e, _⟩ | ⟨e, _⟩ | ⟨j', q', e, h8, h9⟩
      ·omega
      ·omega
      ·obtain rfl : j = j' := by omega
       exact ⟨q', h8, h9⟩
     have hyy : yy = e0 * i.size := by
      rcases k3 with ⟨e, _⟩ | ⟨j', q', e, h8, h9⟩
      ·omega
      ·have : j = j' := by simpa using e
       subst this
       rw [hce] at h8; cases h8; exact h9
     obtain ⟨bb, κ', e3, hL2, hf2⟩ := hsrc
     have hmul : (n' + k) * i.size ≤ n' * i.size + e0 * i.size := by rw [← Nat.add_mul]; exact Nat.mul_le_mul_right _ (by omega)
     have hnk' : n' * i.size + k * i.size = (n' + k) * i.size := (Nat.add_mul n' k i.size).symm
     have hon : oz' * i.size + n' * i.size = l.size := by rw [← Nat.add_mul]; exact hsz0
     have hin : p.2 + oz' * i.size + n' * i.size + L2.length ≤ cl.size := by omega
     have hth := there_of_get hob hfr (o := p.2 + oz' * i.size + n' * i.size) (n := L2.length) hin
     have hst := run_storeCells_cells (P := P) p.1 (p.2 + oz' * i.size + n' * i.size) L2 0 w (fun j hj => by simpa using (hth j hj).1) (fun j hj => by simpa using (hth j hj).2) hL2
     simp only [Nat.add_zero] at hst
     have hrun := run_append_in (rt := rt) (base := some ⟨p.1, p.2 + oz' * i.size, none⟩) (n := n') (κ := κ) (k := k) (y := a.eval y) (l := L2) (w := w) ht hty hn' hi (by rw [e3]; rfl) (by rw [e3]; exact hf2 w rfl κ') hroom
     dsimp only at hrun
     rw [addr_add, hst, Result.andThen_ok] at hrun
     obtain ⟨d1, x1⟩ := hd.setC (κ - (n' + k))
     have hnew := heap_setCells_fr p.1 tyc fr L2 (p.2 + oz' * i.size + n' * i.size) w cl.toList (by rw [Array.toArray_toList]; exact hob) (by rw [Array.length_toList]; exact hin)
     have hLn : (splice cl.toList (p.2 + oz' * i.size + n' * i.size) L2).length = cl.size := by
      simp only [splice, List.length_append, List.length_take, List.length_drop, Array.length_toList]; omega
     have hbd : BD ((σ.setC s.nc (κ - (n' + k))).set s.nx (p.1, p.2 + oz' * i.size)) (p.1, p.2 + oz' * i.size) (.lst c' i.size (s.nc + 1)) (w.setCells p.1 (p.2 + oz' * i.size + n' * i.size) L2) := by
      refine ⟨_, hnew, _, tyc, fr, rfl, ?_, (subL l.toList (oz' * i.size) (n' * i.size) ++ L2).toArray, (κ - (n' + k)) * i.size, hd.sy ▸ hc, ?_, .inr ⟨s.nc, _, rfl, setC_at _ _ _, rfl⟩, ?_, ?_⟩
      ·rcases hfr with h0 | h0
       ·exact .inl h0
       ·right; rw [List.size_toArray, hLn]; exact h0
      ·intro v hv
       rcases List.mem_append.1 (by simpa using hv) with hv | hv
       ·exact hL1 v hv
       ·exact hL2 v hv
      ·rw [List.size_toArray, List.size_toArray, hLn, List.length_append, hl1, hl2]
       have t1 : (n' + k) * i.size + (κ - (n' + k)) * i.size = κ * i.size := by rw [← Nat.add_mul]; congr 1; omega
       have t2 : κ * i.size = n' * i.size + e0 * i.size := by rw [hκe, Nat.add_mul]
       show p.2 + oz' * i.size + (n' * i.size + k * i.size) + (κ - (n' + k)) * i.size ≤ cl.size
       omega
      ·intro m v hv
       rw [List.getElem?_toArray] at hv
       show (splice cl.toList (p.2 + oz' * i.size + n' * i.size) L2).toArray[p.2 + oz' * i.size + m]? = some v
       rw [List.getElem?_toArray, splice_get (by rw [Array.length_toList]; exact hin)]
       rcases Nat.lt_or_ge m (n' * i.size) with hm | hm
       ·rw [List.getElem?_append_left (by rw [hl1]; exact hm)] at hv
        rw [if_pos (by omega), Array.getElem?_toList]
        exact hcells m v hv
       ·rw [List.getElem?_append_right (by rw [hl1]; exact hm)] at hv
        have hm2 := (List.getElem?_eq_some_iff.1 hv).1
        rw [hl1] at hm2 hv
        rw [if_neg (by omega), if_pos (by omega), show p.2 + oz' * i.size + m - (p.2 + oz' * i.size + n' * i.size) = m - n' * i.size by omega]
        exact hv
     obtain ⟨d2, x2⟩ := d1.take (nm := s.nx) hg hp rfl ((Chg.refl (fun k => k = p.1) w).setCells (p := p.1) (fun _ => rfl) _ _) hbd
     obtain ⟨hx7, rfl⟩ := newL_ok h
     have hx7 : s.nx ≤ topName := hx7
     have hms : (⟨Mm.put (some (.lst c' i.size (Nat.succ s.nc))) (Mm.put none s.mem b) s.nx, Nat.succ s.nx, Nat.succ s.nc⟩ : St).ms = ⟨fun m => if m = s.nx then some (.lst c' i.size (s.nc + 1)) else if m = b then none else s.mem.get m, s.nx + 1, s.nc + 1⟩ := by
      unfold St.ms
      congr 1
      funext m
      rw [Mm.get_put _ _ s.nx m (by unfold topName at hx7; omega), Mm.get_put none s.mem b m (by unfold topName at b3'; omega)]
     rw [hx]
     refine ⟨_, _, _, .inl (run_v hrun), ?_, by rw [hms]; exact d2, by rw [hms]; exact x1.trans x2⟩
     simp only [V]
     refine ⟨0, n' + k, rfl, ?_, .inr ⟨(p.1, p.2 + oz' * i.size), κ, if_pos rfl, by simp, .inr (.inr ⟨s.nc, κ - (n' + k), rfl, setC_at _ _ _, by omega⟩)⟩⟩
     show nz σ.sy ln' = _
     rw [hd.sy]; exact hl
    ·exact grow _ hd0 _ n' κ k _ L2 c' ln' _ hx rfl hsrc hL1 hf1 (by omega) hnk hl1 hl2 hc hl h hback
 ·-- a row of known length, without room
  rename_i b o n cc
  split at h
  case h_2 => cases h
  rename_i hcc
  have hcc' := Nat.eq_of_beq_eq_true hcc
  subst hcc'
  obtain ⟨base, h5, h⟩ := R.bind_ok h
  obtain ⟨q, h4, h⟩ := R.bind_ok h
  obtain ⟨n', k, L1, L2, c', ln', rfl, s1, s2, hk, hc, hl, hnk⟩ := (look_mem (t := 300000000 + i.size) hq h4).app1 hsize'
  have hsrc := srcA_ok (P := P) hd h3 hy s2
  obtain ⟨bb, κ, eb, hL1, hf1⟩ := srcA_ok (P := P) hd h5 hx s1
  have hκ : κ = n' := by
   simp only [V] at hx
   obtain ⟨p, κ1, hp, hx, hK⟩ := hx
   rw [hx] at eb
   cases eb
   rcases hK with ⟨_, hK⟩ | ⟨j, e, hK, _, _⟩
   ·exact hK
   ·cases hK
  exact grow s hd bb n' κ k L1 L2 c' ln' _ eb rfl hsrc hL1 (fun w' hw => hf1 w' hw κ) (by omega) hnk s1.length s2.length hc hl h id
def putT (l : List QE) (G : Nat) (P : Program) (T : Tm) (s : St) (t : Nat) (x v : Operand) : R (AV × St) := (opd G T x).bind fun p => (opd G T v).bind fun v => match p with
 | .pls b sz j o => match s.mem.get b, Nat.ble t 9999, Nat.ble b topName with
  | some (.lst c sz' xx), true, true => (look l (Nat.add 8000000000 (Nat.add 100000000 t)) [.pls b sz j o, .sym c, v]).bind fun r => match r with
   | .sym c' => (cellsA v).bind fun cs => (szA P t).bind fun n => match Nat.beq (clen cs) n, onesA cs with
    | true, true => .ok (.tup [], { s with mem := Mm.put (some (.lst c' sz' xx)) s.mem b })
    | _, _ => .no 664
   | _ => .no 665
  | _, _, _ => .no 666
 | _ => .no 667
theorem putT_ok {G : Gl} {l : List QE} (hq : QsOK G P l) {T : Tm} {s : St} {o : Oper} {t : Nat} {x v : Operand} {r : AV × St} {σ : Sg} {a : Act} {w : World} (ho : o.op = .store t x v) (h : putT l G P T s t x v = .ok r) (hd : Ds G σ s.ms w) (d : ∀ y ∈ o.op.operands, Od G σ (tget T) a y) :
  Did G P σ s w ((execOp a.eval o).run P w) r := by
 rw [ho] at d
 obtain ⟨xv, h1, h⟩ := R.bind_ok h
 obtain ⟨vv, h2, h⟩ := R.bind_ok h
 have hx := opd_ok h1 (d x (by simp [Op.operands]))
 have hv := opd_ok h2 (d v (by simp [Op.operands]))
 split at h
 case h_2 => cases h
 rename_i b sz j off _
 split at h
 case h_2 => cases h
 rename_i c sz' xx hg ht hb
 have ht' := Nat.le_of_ble_eq_true ht
 have hb' := Nat.le_of_ble_eq_true hb
 obtain ⟨q, h3, h⟩ := R.bind_ok h
 split at h
 case h_2 => cases h
 rename_i c'
 obtain ⟨cs, h4, h⟩ := R.bind_ok h
 obtain ⟨n, h5, h⟩ := R.bind_ok h
 split at h
 case h_2 => cases h
 rename_i h6 h7
 have h6' := Nat.eq_of_beq_eq_true h6
 cases h
 obtain ⟨c'', L, l0, l', jz, e0, hj, hc, hc', hvc, hin, hs⟩ := (look_mem (t := 100000000 + t) hq h3).put ht'
 cases e0
 simp only [V] at hx
 obtain ⟨jz', e1, p, hp, e2⟩ := hx
 rw [hd.sy, hj] at e1
 have t1 : jz = jz' := by injection e1 with e1; omega
 subst t1
 have hL : (a.eval v).cells.toList = L := vcs_of hv (by rw [hd.sy]; exact hvc)
 have h1L : ∀ y ∈ L, y.oneCell' = true := by rw [← hL]; exact onesA_vcs h4 hv h7
 have hlen : L.length = n := by
  have := Cs_length _ _ (cellsA_ok h4 hv)
  rw [hL] at this
  omega
 obtain ⟨ob, hob, cl, tyc, fr, rfl, hfr, l1, yy, k1, k2, k3, k4, k5⟩ := hd.blkP hg hp
 rw [hd.sy, hc] at k1
 cases k1
 have hin' : p.2 + jz * sz + off + L.length ≤ cl.size := by omega
 have hth := there_of_get hob hfr (o := p.2 + jz * sz + off) (n := L.length) hin'
 have hst : (storeVar t ⟨p.1, p.2 + jz * sz + off, none⟩ (a.eval v)).run P w = .ok () (w.setCells p.1 (p.2 + jz * sz + off) L) := by
  rw [← hL]
  exact run_storeVar h5 (by rw [← Array.length_toList, hL]; exact hlen) (by rw [hL]; exact hth) (by rw [hL]; exact h1L)
 have hnew := heap_setCells_fr p.1 tyc fr L (p.2 + jz * sz + off) w cl.toList (by rw [Array.toArray_toList]; exact hob) (by rw [Array.length_toList]; exact hin')
 have hLn : (splice cl.toList (p.2 + jz * sz + off) L).length = cl.size := by
  simp only [splice, List.length_append, List.length_take, List.length_drop, Array.length_toList]; omega
 have hsz : l'.size = l0.size := by
  rw [← Array.length_toList, hs]
  simp only [List.length_append, List.length_take, List.length_drop, Array.length_toList]; omega
 have hbd : BD σ p (.lst c' sz' xx) (w.setCells p.1 (p.2 + jz * sz + off) L) := by
  refine ⟨_, hnew, _, tyc, fr, rfl, ?_, l', yy, by rw [hd.sy]; exact hc', ?_, k3, ?_, ?_⟩
  ·rcases hfr with h0 | h0
   ·exact .inl h0
   ·right; rw [List.size_toArray, hLn]; exact h0
  ·intro v hv
   rw [hs] at hv
   rcases List.mem_append.1 hv with hv | hv
   ·exact k2 v (List.mem_of_mem_take hv)
   ·rcases List.mem_append.1 hv with hv | hv
    ·exact h1L v hv
    ·exact k2 v (List.mem_of_mem_drop hv)
  ·show p.2 + l'.size + yy ≤ (splice cl.toList (p.2 + jz * sz + off) L).toArray.size
   have e9 : (splice cl.toList (p.2 + jz * sz + off) L).toArray.size = cl.size := by rw [List.size_toArray]; exact hLn
   omega
  ·intro m v hv
   rw [← Array.getElem?_toList, hs, ← splice_eq, splice_get (by rw [Array.length_toList]; exact hin)] at hv
   show (splice cl.toList (p.2 + jz * sz + off) L).toArray[p.2 + m]? = some v
   rw [List.getElem?_toArray, splice_get (by rw [Array.length_toList]; exact hin')]
   split at hv
   ·rw [if_pos (by omega), Array.getElem?_toList]
    rw [Array.getElem?_toList] at hv
    exact k5 m v hv
   ·rw [if_neg (by omega)]
    split at hv
    ·rw [if_pos (by omega), show p.2 + m - (p.2 + jz * sz + off) = m - (jz * sz + off) by omega]
     exact hv
    ·rw [if_neg (by omega), Array.getElem?_toList]
     rw [Array.getElem?_toList] at hv
     exact k5 m v hv
 obtain ⟨d2, x2⟩ := hd.write hg hp ((Chg.refl (fun k => k = p.1) w).setCells (p := p.1) (fun _ => rfl) _ _) hbd
 have hms : ({ s with mem := Mm.put (some (.lst c' sz' xx)) s.mem b } : St).ms = ⟨fun n => if n = b then some (.lst c' sz' xx) else s.ms.g n, s.ms.nx, s.ms.nc⟩ := by
  unfold St.ms
  congr 1
  funext m
  exact Mm.get_put _ _ b m (by unfold topName at hb'; omega)
 refine ⟨σ, undef, _, .inr ⟨?_, rfl⟩, V_undef σ, by rw [hms]; exact d2, by rw [hms]; exact x2⟩
 unfold execOp
 simp only [ho, Sem.run_bind, Instr.storeAt, e2, Instr.sureAddr, Sem.run_pure, Result.andThen_ok, hst]
theorem Ds.relst {G : Gl} {σ : Sg} {M : MS} {w : World} (d : Ds G σ M w) {b c c' sz y : Nat} (hg : M.g b = some (.lst c sz y)) (e : G.sy c' = G.sy c) :
  Ds G σ ⟨fun n => if n = b then some (.lst c' sz y) else M.g n, M.nx, M.nc⟩ w ∧ Ex σ M w σ ⟨fun n => if n = b then some (.lst c' sz y) else M.g n, M.nx, M.nc⟩ w := by
 have e : σ.sy c' = σ.sy c := by rw [d.sy]; exact e
 have hthere : ∀ n a, (if n = b then some (.lst c' sz y) else M.g n) = some a → ∃ a', M.g n = some a' := by
  intro n a h
  split at h
  ·rename_i e; subst e; exact ⟨_, hg⟩
  ·exact ⟨_, h⟩
 refine DE (fun hex => ⟨?_, ?_, d.fresh, d.freshC, d.glob, d.sy, d.old.next hex.im hex.chg⟩) ⟨fun n hn => rfl, fun _ _ => rfl, rfl, Nat.le_refl _, Nat.le_refl _, ?_, Chg.refl _ _⟩
 ·intro n a h
  change (if n = b then _ else M.g n) = some a at h
  split at h
  ·rename_i e1; cases h; subst e1
   rcases d.blk n _ hg with ⟨q, hq, ob, ho, hbo⟩ | ⟨h1, h2, h3⟩
   ·refine .inl ⟨q, hq, ob, ho, ?_⟩
    obtain ⟨cl, t, fr, g1, g2, l, y', g3, g4⟩ := hbo
    exact ⟨cl, t, fr, g1, g2, l, y', by rw [e]; exact g3, g4⟩
   ·exact .inr ⟨h1, h2, (show σ.sy c' = _ by rw [e]; exact h3)⟩
  ·exact d.blk n a h
 ·intro n k a a' q q' hnk h1 h2 hq hq'
  obtain ⟨_, h1⟩ := hthere n a h1
  obtain ⟨_, h2⟩ := hthere k a' h2
  exact d.inj n k _ _ q q' hnk h1 h2 hq hq'
 ·rintro k ⟨n, a, q, h, hq, rfl⟩
  obtain ⟨_, h⟩ := hthere n a h
  exact .inr ⟨n, _, q, h, hq, rfl⟩
def clrT (l : List QE) (G : Nat) (P : Program) (T : Tm) (s : St) (x : Operand) (e : TypeId) : R (AV × St) := match P.info? e with
 | none => .no 680
 | some i => (zCs P e i.size).bind fun zc => (opd G T x).bind fun x => match x with
  | .sls b sz o ln xx => match Nat.beq i.size sz, s.mem.get b, Nat.ble b topName, Nat.ble i.size 9999, onesA zc with
   | true, some (.lst c sz' yy), true, true, true => (look l (Nat.add 8000000000 (Nat.add 400000000 i.size)) [.tup [.sym c, o, ln], .agg zc]).bind fun r => match r with
    | .sym c' => .ok (.tup [], { s with mem := Mm.put (some (.lst c' sz' yy)) s.mem b })
    | _ => .no 681
   | _, _, _, _, _ => .no 682
  | _ => .no 683
theorem clrT_ok {G : Gl} {l : List QE} (hq : QsOK G P l) {T : Tm} {s : St} {x : Operand} {t ty e : TypeId} {r : AV × St} {σ : Sg} {a : Act} {w : World} (ht : P.underlying t = some (.slice e)) (h : clrT l G.n P T s x e = .ok r) (hd : Ds G σ s.ms w) (dx : Od G σ (tget T) a x) :
  Did G P σ s w (((do pure (Next.value (← Builtin.clear_ #[t] ty #[a.eval x])) : Sem Next)).run P w) r := by
 unfold clrT at h
 split at h
 ·cases h
 rename_i i hi
 obtain ⟨zc, h0, ha⟩ := R.bind_ok h; clear h
 obtain ⟨xv, h1, h⟩ := R.bind_ok ha; clear ha
 have hx := opd_ok h1 dx
 split at h
 case h_2 => cases h
 rename_i b sz o ln xx
 split at h
 case h_2 => cases h
 rename_i c sz' yy b1 hg b2 b3 hone
 have b1 := Nat.eq_of_beq_eq_true b1
 subst b1
 have hb' := Nat.le_of_ble_eq_true b2
 have b3 := Nat.le_of_ble_eq_true b3
 obtain ⟨q, h4, h⟩ := R.bind_ok h
 split at h
 case h_2 => cases h
 rename_i c'
 cases h
 obtain ⟨c'', zv, L, L', oz, n, e0, hc, hc', ho, hn, hz, hzl, hin, hs⟩ := (look_mem (t := 400000000 + i.size) hq h4).clr b3
 cases e0
 obtain ⟨z, z1, z2, z3, z4⟩ := zCs_ok h0 w
 have hzv : z.cells.toList = zv := by
  have := ivs_of (z2 σ) (by rw [hd.sy]; exact hz)
  exact this
 simp only [V] at hx
 obtain ⟨oz', n', e1, e2, hx⟩ := hx
 rw [hd.sy, ho] at e1
 rw [hd.sy, hn] at e2
 have t1 : oz' = oz := by injection e1 with e1; omega
 have t2 : n' = n := by injection e2 with e2; omega
 subst t1; subst t2
 have hms : ({ s with mem := Mm.put (some (.lst c' sz' yy)) s.mem b } : St).ms = ⟨fun n => if n = b then some (.lst c' sz' yy) else s.ms.g n, s.ms.nx, s.ms.nc⟩ := by
  unfold St.ms
  congr 1
  funext m
  exact Mm.get_put _ _ b m (by unfold topName at hb'; omega)
 have same : n' = 0 → Ds G σ ({ s with mem := Mm.put (some (.lst c' sz' yy)) s.mem b } : St).ms w ∧ Ex σ s.ms w σ ({ s with mem := Mm.put (some (.lst c' sz' yy)) s.mem b } : St).ms w := by
  intro h0
  subst h0
  rw [hms]
  refine hd.relst hg ?_
  rw [hc, hc']
  congr 1
  apply Array.ext'
  rw [hs]
  simp
 have hzl' : z.cells.toList.length = i.size := by rw [hzv]; exact hzl
 rcases hx with ⟨hn0, aa, hx⟩ | ⟨p, κ, hp, hx, hK⟩
 ·obtain ⟨d2, x2⟩ := same hn0
  refine ⟨σ, .tuple #[], w, .inl (run_v ?_), by simp only [V]; exact ⟨[], by simp [Vs], rfl⟩, d2, x2⟩
  unfold Builtin.clear_
  simp only [List.getElem?_toArray, List.getElem?_cons_zero, Sem.run_bind, run_underlying ht, Result.andThen_ok, hx]
  cases aa <;> rfl
 ·by_cases hn0 : n' = 0
  ·obtain ⟨d2, x2⟩ := same hn0
   subst hn0
   refine ⟨σ, .tuple #[], w, .inl (run_v ?_), by simp only [V]; exact ⟨[], by simp [Vs], rfl⟩, d2, x2⟩
   unfold Builtin.clear_
   simp only [List.getElem?_toArray, List.getElem?_cons_zero, Sem.run_bind, run_underlying ht, Result.andThen_ok, hx]
   rfl
  ·obtain ⟨m, rfl⟩ : ∃ m, n' = m + 1 := ⟨n' - 1, by omega⟩
   have hM : ∃ M : List Value, M = (List.replicate (m + 1) zv).flatten := ⟨_, rfl⟩
   obtain ⟨M, hM⟩ := hM
   rw [← hM] at hs
   have hMl : M.length = (m + 1) * i.size := by
    rw [hM, List.length_flatten, List.map_replicate, List.sum_replicate_nat, hzl]
   have h1M : ∀ y ∈ M, y.oneCell' = true := by
    intro y hy
    rw [hM] at hy
    obtain ⟨q, hq1, hq2⟩ := List.mem_flatten.1 hy
    have := (List.mem_replicate.1 hq1).2
    subst this
    have hy2 : y ∈ z.cells.toList := by rw [hzv]; exact hq2
    exact onesA_ok _ _ hone (z2 σ) y hy2
   obtain ⟨ob, hob, cl, tyc, fr, rfl, hfr, l1, ye, k1, k2, k3, k4, k5⟩ := hd.blkP hg hp
   rw [hd.sy, hc] at k1
   cases k1
   have hin' : p.2 + oz' * i.size + M.length ≤ cl.size := by rw [hMl]; omega
   have hth := there_of_get hob hfr (o := p.2 + oz' * i.size) (n := M.length) hin'
   have hst := run_storeCells_cells (P := P) p.1 (p.2 + oz' * i.size) M 0 w (fun j hj => by simpa using (hth j hj).1) (fun j hj => by simpa using (hth j hj).2) h1M
   simp only [Nat.add_zero] at hst
   have hnew := heap_setCells_fr p.1 tyc fr M (p.2 + oz' * i.size) w cl.toList (by rw [Array.toArray_toList]; exact hob) (by rw [Array.length_toList]; exact hin')
   have hLn : (splice cl.toList (p.2 + oz' * i.size) M).length = cl.size := by
    simp only [splice, List.length_append, List.length_take, List.length_drop, Array.length_toList]; omega
   have hs' : L'.toList = splice L.toList (oz' * i.size) M := by rw [hs, splice_eq, hMl]
   have hinL : oz' * i.size + M.length ≤ L.toList.length := by rw [hMl, show L.toList.length = L.size from Array.length_toList]; exact hin
   have hsz : L'.size = L.size := by
    rw [← Array.length_toList, hs']
    rw [show L.toList.length = L.size from Array.length_toList] at hinL
    simp only [splice, List.length_append, List.length_take, List.length_drop, Array.length_toList]
    omega
   have hbd : BD σ p (.lst c' sz' yy) (w.setCells p.1 (p.2 + oz' * i.size) M) := by
    refine ⟨_, hnew, _, tyc, fr, rfl, ?_, L', ye, by rw [hd.sy]; exact hc', ?_, k3, ?_, ?_⟩
    ·rcases hfr with h0 | h0
     ·exact .inl h0
     ·right; rw [List.size_toArray, hLn]; exact h0
    ·intro v hv
     rw [hs', splice_eq] at hv
     rcases List.mem_append.1 hv with hv | hv
     ·exact k2 v (List.mem_of_mem_take hv)
     ·rcases List.mem_append.1 hv with hv | hv
      ·exact h1M v hv
      ·exact k2 v (List.mem_of_mem_drop hv)
    ·show p.2 + L'.size + ye ≤ (splice cl.toList (p.2 + oz' * i.size) M).toArray.size
     have e9 : (splice cl.toList (p.2 + oz' * i.size) M).toArray.size = cl.size := by rw [List.size_toArray]; exact hLn
     omega
    ·intro j v hv
     rw [← Array.getElem?_toList, hs', splice_get hinL] at hv
     show (splice cl.toList (p.2 + oz' * i.size) M).toArray[p.2 + j]? = some v
     rw [List.getElem?_toArray, splice_get (by rw [Array.length_toList]; exact hin')]
     split at hv
     ·rw [if_pos (by omega), Array.getElem?_toList]
      rw [Array.getElem?_toList] at hv
      exact k5 j v hv
     ·rw [if_neg (by omega)]
      split at hv
      ·rw [if_pos (by omega), show p.2 + j - (p.2 + oz' * i.size) = j - oz' * i.size by omega]
       exact hv
      ·rw [if_neg (by omega), Array.getElem?_toList]
       rw [Array.getElem?_toList] at hv
       exact k5 j v hv
   obtain ⟨d2, x2⟩ := hd.write hg hp ((Chg.refl (fun k => k = p.1) w).setCells (p := p.1) (fun _ => rfl) _ _) hbd
   have hzc : (Builtin.zeroCells z.cells (m + 1)).toList = M := by
    unfold Builtin.zeroCells
    rw [zeroRow (by omega), hM, hzv]
   refine ⟨σ, .tuple #[], _, .inl (run_v ?_), by simp only [V]; exact ⟨[], by simp [Vs], rfl⟩, by rw [hms]; exact d2, by rw [hms]; exact x2⟩
   unfold Builtin.clear_
   simp only [List.getElem?_toArray, List.getElem?_cons_zero, Sem.run_bind, run_underlying ht, Result.andThen_ok, hx, z1, hzc, hst]
   rfl
def qeT (l : List QE) (G : Nat) (P : Program) (op : Op) (T : Tm) (s : St) : R (AV × St) := match op with
 | .store t x v => putT l G P T s t x v
 | .call c => match c.callee with
  | .builtin .append => match c.args.toList, c.argTypes.toList with
   | [x, y], [t, ty] => match P.underlying t, P.underlying ty with
    | some (.slice e), some (.int _) => .no 668
    | some (.slice e), some _ => appT l G P T s x y e
    | _, _ => .no 669
   | _, _ => .no 673
  | .builtin .clear => match c.args.toList, c.argTypes.toList with
   | [x], [t] => match P.underlying t with
    | some (.slice e) => clrT l G P T s x e
    | _ => .no 676
   | _, _ => .no 677
  | _ => .no 674
 | _ => .no 675
theorem qeT_ok {G : Gl} {l : List QE} (hq : QsOK G P l) {o : Oper} {T : Tm} {s : St} {r : AV × St} (h : qeT l G P o.op T s = .ok r) {σ : Sg} {a : Act} {w : World} (hd : Ds G σ s.ms w) (d : ∀ x ∈ o.op.operands, Od G σ (tget T) a x) :
  Did G P σ s w ((execOp a.eval o).run P w) r := by
 unfold qeT at h
 split at h
 ·rename_i t x v ho
  exact putT_ok hq ho h hd d
 ·rename_i c ho
  split at h
  case h_3 => cases h
  ·rename_i hcb
   rw [call_opds ho hcb] at d
   rw [run_builtin ho hcb]
   split at h
   case h_2 => cases h
   rename_i x y t ty e1 e2
   rw [arr2 e1] at d ⊢
   rw [show Array.map a.eval #[x, y] = #[a.eval x, a.eval y] by simp, arr2 e2]
   split at h
   ·cases h
   case h_3 => cases h
   rename_i e td hno ht hty
   exact appT_ok hq ht hty (fun kk e => hno kk (by rw [e])) h hd (d x (by simp)) (d y (by simp))
  ·rename_i hcb
   rw [call_opds ho hcb] at d
   rw [run_builtin ho hcb]
   split at h
   case h_2 => cases h
   rename_i x t e1 e2
   rw [arr1 e1] at d ⊢
   rw [show Array.map a.eval #[x] = #[a.eval x] by simp, arr1 e2]
   split at h
   case h_2 => cases h
   rename_i e ht
   exact clrT_ok hq ht h hd (d x (by simp))
 ·cases h
def Env.sy (E : Env) (G : Gl) (l : List QE) (S : Nat → List AV → St → Option (R (EE × St))) (lp : Nat → LpR) : Env := { E with G := G, qp := qpT l G.n E.P, ql := qlT l G.n, qe := qeT l G.n E.P, sum := S, lps := lp }
theorem EnvOK.sy {E : Env} (ok : EnvOK E) {G : Gl} {l : List QE} {S : Nat → List AV → St → Option (R (EE × St))} {lp : Nat → LpR} (hq : QsOK G E.P l)
  (hS : ∀ f vs s e s', S f vs s = some (.ok (e, s')) → ∀ σ w xs, Ds G σ s.ms w → Vs σ vs xs → Calls E.P f xs.toArray w fun ec w' => ∃ σ', EV σ' e ec ∧ Ds G σ' s'.ms w' ∧ Ex σ s.ms w σ' s'.ms w')
  (hL : ∀ f fn c, E.P.funcs[f]? = some fn → fn.body = some c → LpOK (E.sy G l S lp) fn.ntmps (lp f) c) : EnvOK (E.sy G l S lp) :=
 ⟨ok.plain, ok.mixed, ok.ext, hS, fun o T v h σ a hs d w => qpT_ok hq h hs d w, fun o T s v h σ a w hd d => qlT_ok hq h hd d, fun o T s r h σ a w hd d => qeT_ok hq h hd d, hL⟩
def syL (l : List Value) (i : Nat) : Value := (l[i]?).getD undef
def isR (v : AV) (x : R (EE × St)) : Bool := match x with
 | .ok r => match r.1 with
  | .ret u => eqAV u v
  | _ => false
 | .no _ => false
theorem isR_ok {v : AV} {x : R (EE × St)} (h : isR v x = true) : ∃ s, x = .ok (.ret v, s) := by
 cases x with
 | no c => cases h
 | ok r =>
  obtain ⟨e, s⟩ := r
  cases e with
  | pan v => cases h
  | ret u => rw [eqAV_ok _ _ h]; exact ⟨s, rfl⟩
theorem run_ret {E : Env} (ok : EnvOK E) (hrd : E.rd = none) {f lf n : Nat} {vs : List AV} {s : St} {v : AV} {σ : Sg} {w : World} {xs : List Value} {x : Value} (hd : Ds E.G σ s.ms w) (hv : Vs σ vs xs)
  (h : isR v (funA E (drwA E) lf n (.fn f) vs s) = true) (hx : vt E.G.sy v = some x) : Calls E.P f xs.toArray w fun e w' => e = .returned x ∧ Chg (Im σ s.ms) w w' := by
 obtain ⟨s', h⟩ := isR_ok h
 refine ((funA_sound hrd ok lf n).1 f vs s (.ret v) s' h σ w xs hd hv).mono fun e w' ⟨σ', g1, g2, g3⟩ => ?_
 obtain ⟨y, hy, rfl⟩ := g1
 refine ⟨?_, g3.chg⟩
 congr 1
 exact vt_of hy (by rw [g2.sy]; exact hx)
theorem Ds.bare {G : Gl} (h : ∀ k, ¬ G.old k) (w : World) : Ds G ⟨fun n => if n < G.n then some (n, 0) else none, fun _ => none, G.sy⟩ (⟨Mm.lf, G.n, 0⟩ : St).ms w := by
 have hg : ∀ n, (⟨Mm.lf, G.n, 0⟩ : St).ms.g n = none := fun n => Mm.get_lf n
 refine ⟨fun n ab e => ?_, fun n m ab ab' p q _ e => ?_, fun n hn => ?_, fun n _ => rfl, fun g hlt => if_pos hlt, rfl, fun k hk => (h k hk).elim⟩
 ·rw [hg] at e; cases e
 ·rw [hg] at e; cases e
 ·have hn' : G.n ≤ n := hn
  exact if_neg (by omega)
end
end Go.Proofs.YtocabeobfbhajaaGreatDoor.Sx
end
section
namespace Go.Proofs.YtocabeobfbhajaaGreatDoor.Sx
noncomputable section
open Go Go.RowKit
mutual
def lowV (nx nc K : Nat) : AV → Bool
 | .ptr b _ => Nat.ble (Nat.succ b) nx
 | .sl b _ _ _ x => match Nat.ble (Nat.succ b) nx with
  | true => Nat.ble x nc
  | false => false
 | .mp b => Nat.ble (Nat.succ b) nx
 | .yl b => Nat.ble (Nat.succ b) nx
 | .fn _ fs cs => match lowVs nx nc K fs with
  | true => lowVs nx nc K cs
  | false => false
 | .ifc _ v => lowV nx nc K v
 | .agg cs => lowVs nx nc K cs
 | .tup cs => lowVs nx nc K cs
 | .sym i => Nat.ble (Nat.succ i) K
 | .sls b _ o ln x => match Nat.ble (Nat.succ b) nx, lowV nx nc K o, lowV nx nc K ln with
  | true, true, true => Nat.ble x (Nat.succ nc)
  | _, _, _ => false
 | .pls b _ j _ => match Nat.ble (Nat.succ b) nx with
  | true => lowV nx nc K j
  | false => false
 | _ => true
def lowVs (nx nc K : Nat) : List AV → Bool
 | [] => true
 | v :: r => match lowV nx nc K v with
  | true => lowVs nx nc K r
  | false => false
end
structure Rn where
 n0 : Nat
 nb : List Nat
 c0 : Nat
 cb : List Nat
 K : Nat
 outs : List AV
def Rn.nm (r : Rn) (n : Nat) : Nat := match Nat.ble r.n0 n with
 | true => (r.nb[Nat.sub n r.n0]?).getD n
 | false => n
def Rn.dr (r : Rn) (c : Nat) : Nat := match Nat.ble r.c0 c with
 | true => (r.cb[Nat.sub c r.c0]?).getD c
 | false => c
def Sg.through (σ : Sg) (r : Rn) (Y : Nat → Value) : Sg where
 bl n := if n < r.n0 + r.nb.length then σ.bl (r.nm n) else none
 cp n := if n < r.c0 + r.cb.length then σ.cp (r.dr n) else none
 sy := Y
def Rn.sv (r : Rn) (i : Nat) : AV := match Nat.ble r.K i with
 | true => match (r.outs[Nat.sub i r.K]?).getD (.tup [.bs 0 0]) with
  | .agg _ => .tup [.bs 0 0]
  | v => v
 | false => .sym i
mutual
def sbV (r : Rn) : AV → AV
 | .bool b => .bool b
 | .int k n => .int k n
 | .str n N => .str n N
 | .ptr b o => .ptr (r.nm b) o
 | .np => .np
 | .sl b o n c x => .sl (r.nm b) o n c (match x with | 0 => 0 | i + 1 => Nat.succ (r.dr i))
 | .ns => .ns
 | .mp b => .mp (r.nm b)
 | .nm => .nm
 | .fn f fs cs => .fn f (sbVs r fs) (sbVs r cs)
 | .nf => .nf
 | .ifc t v => .ifc t (sbV r v)
 | .ni => .ni
 | .agg cs => .agg (sbVs r cs)
 | .bs n N => .bs n N
 | .top => .top
 | .tup vs => .tup (sbVs r vs)
 | .sym i => r.sv i
 | .yl b => .yl (r.nm b)
 | .sls b sz o ln x => .sls (r.nm b) sz (sbV r o) (sbV r ln) (match x with | 0 => 0 | 1 => 1 | i + 2 => Nat.succ (Nat.succ (r.dr i)))
 | .pls b sz j o => .pls (r.nm b) sz (sbV r j) o
def sbVs (r : Rn) : List AV → List AV
 | [] => []
 | v :: l => sbV r v :: sbVs r l
end
structure Fits (r : Rn) (σ : Sg) (Y : Nat → Value) : Prop where
 old : ∀ i, i < r.K → Y i = σ.sy i
 new : ∀ i v, r.outs[i]? = some v → vv σ.sy v = some (Y (r.K + i))
section
variable {r : Rn} {σ : Sg} {Y : Nat → Value}
theorem through_bl {b : Nat} {p : Nat × Nat} (hb : b < r.n0 + r.nb.length) (h : σ.bl (r.nm b) = some p) : (σ.through r Y).bl b = some p := by
 show (if b < r.n0 + r.nb.length then σ.bl (r.nm b) else none) = some p
 rw [if_pos hb]; exact h
theorem through_cp {c e : Nat} (hc : c < r.c0 + r.cb.length) (h : σ.cp (r.dr c) = some e) : (σ.through r Y).cp c = some e := by
 show (if c < r.c0 + r.cb.length then σ.cp (r.dr c) else none) = some e
 rw [if_pos hc]; exact h
theorem V_bs0 {x : Value} : ¬ V σ (.tup [.bs 0 0]) x := by simp [V, Vs]
theorem sv_ok (hf : Fits r σ Y) {i : Nat} {x : Value} (hi : i < r.K + r.outs.length) (h : V σ (r.sv i) x) : x = Y i ∧ x.oneCell' = true := by
 unfold Rn.sv at h
 split at h
 ·rename_i hb
  have hb' := Nat.le_of_ble_eq_true hb
  have hlt : i - r.K < r.outs.length := by omega
  have hg : r.outs[Nat.sub i r.K]? = some r.outs[i - r.K] := List.getElem?_eq_getElem hlt
  rw [hg] at h
  simp only [Option.getD_some] at h
  have hn := hf.new _ _ (List.getElem?_eq_getElem hlt)
  rw [Nat.add_sub_cancel' hb'] at hn
  split at h
  ·exact (V_bs0 h).elim
  ·have e := vv_of h hn
   refine ⟨e, ?_⟩
   rename_i u hu
   generalize r.outs[i - r.K] = u at *
   cases u <;> first | (exact absurd rfl (hu _)) | skip
   all_goals simp only [vv, iv, Option.some.injEq, reduceCtorEq] at hn
   case sym => simp only [V] at h; exact h.2
   all_goals (rw [e, ← hn]; rfl)
 ·rename_i hb
  have hb' : i < r.K := ble_false hb
  simp only [V] at h
  exact ⟨by rw [hf.old i hb']; exact h.1, h.2⟩
theorem nz_sb (hf : Fits r σ Y) {v : AV} {n : Int} {nx nc : Nat} (hl : lowV nx nc (r.K + r.outs.length) v = true) (h : nz σ.sy (sbV r v) = some n) : nz Y v = some n := by
 cases v <;> simp only [sbV] at h <;> (try (simp [nz] at h; done))
 case int k m => exact h
 case sym i =>
  simp only [lowV] at hl
  have hi := Nat.le_of_ble_eq_true hl
  unfold Rn.sv at h
  split at h
  ·rename_i hb
   have hb' := Nat.le_of_ble_eq_true hb
   have hlt : i - r.K < r.outs.length := by omega
   have hg : r.outs[Nat.sub i r.K]? = some r.outs[i - r.K] := List.getElem?_eq_getElem hlt
   rw [hg] at h
   simp only [Option.getD_some] at h
   have hn := hf.new _ _ (List.getElem?_eq_getElem hlt)
   rw [Nat.add_sub_cancel' hb'] at hn
   generalize r.outs[i - r.K] = u at *
   split at h
   ·simp [nz] at h
   ·cases u <;> simp only [nz, reduceCtorEq] at h
    case int k m =>
     simp only [vv, iv, Option.some.injEq] at hn
     simp only [nz, ← hn]; exact h
    case sym k =>
     simp only [vv, iv, Option.some.injEq] at hn
     simp only [nz, ← hn]; exact h
  ·rename_i hb
   have hb' : i < r.K := ble_false hb
   simp only [nz] at h ⊢
   rw [hf.old i hb']; exact h
end
mutual
theorem V_sb {r : Rn} {σ : Sg} {Y : Nat → Value} (hf : Fits r σ Y) : ∀ (v : AV) (x : Value), lowV (r.n0 + r.nb.length) (r.c0 + r.cb.length) (r.K + r.outs.length) v = true → V σ (sbV r v) x → V (σ.through r Y) v x
 | .bool b, x, _, e => by simpa [V, sbV] using e
 | .int k n, x, _, e => by simpa [V, sbV] using e
 | .str n N, x, _, e => by simpa [V, sbV] using e
 | .ptr b o, x, g, e => by
  simp only [V, sbV] at e ⊢; simp only [lowV] at g; obtain ⟨p, hp, e⟩ := e
  exact ⟨p, through_bl (Nat.le_of_ble_eq_true g) hp, e⟩
 | .np, x, _, e => by simpa [V, sbV] using e
 | .sl b o n c i, x, g, e => by
  simp only [V, sbV] at e ⊢
  simp only [lowV] at g
  split at g
  case h_2 => cases g
  rename_i g1
  obtain ⟨p, κ, hp, e, hc⟩ := e
  refine ⟨p, κ, through_bl (Nat.le_of_ble_eq_true g1) hp, e, ?_⟩
  have g' := Nat.le_of_ble_eq_true g
  cases i with
  | zero =>
   rcases hc with hc | ⟨j, a, h1, _⟩
   ·exact .inl hc
   ·cases h1
  | succ i =>
   rcases hc with ⟨h1, _⟩ | ⟨j, a, h1, h2, h3⟩
   ·cases h1
   ·have : r.dr i = j := by simpa using h1
    subst this
    exact .inr ⟨i, a, rfl, through_cp (by omega) h2, h3⟩
 | .ns, x, _, e => by simpa [V, sbV] using e
 | .mp b, x, g, e => by
  simp only [V, sbV] at e ⊢; simp only [lowV] at g; obtain ⟨p, hp, e⟩ := e
  exact ⟨p, through_bl (Nat.le_of_ble_eq_true g) hp, e⟩
 | .nm, x, _, e => by simpa [V, sbV] using e
 | .fn f fs cs, x, g, e => by
  simp only [V, sbV] at e ⊢
  simp only [lowV] at g
  split at g
  case h_2 => cases g
  rename_i g1
  obtain ⟨a, b, ha, hb, e⟩ := e
  exact ⟨a, b, Vs_sb hf _ _ g1 ha, Vs_sb hf _ _ g hb, e⟩
 | .nf, x, _, e => by simpa [V, sbV] using e
 | .ifc t v, x, g, e => by
  simp only [V, sbV] at e ⊢; simp only [lowV] at g; obtain ⟨y, hy, e⟩ := e
  exact ⟨y, V_sb hf _ _ g hy, e⟩
 | .ni, x, _, e => by simpa [V, sbV] using e
 | .agg cs, x, g, e => by
  simp only [V, sbV] at e ⊢; simp only [lowV] at g; obtain ⟨l, hl, e⟩ := e
  exact ⟨l, Cs_sb hf _ _ g hl, e⟩
 | .bs _ _, x, _, e => by simp only [V, sbV] at e
 | .top, x, _, e => by simp only [V]
 | .tup vs, x, g, e => by
  simp only [V, sbV] at e ⊢; simp only [lowV] at g; obtain ⟨l, hl, e⟩ := e
  exact ⟨l, Vs_sb hf _ _ g hl, e⟩
 | .sym i, x, g, e => by
  simp only [lowV] at g
  simp only [sbV] at e
  simp only [V]
  exact sv_ok hf (Nat.le_of_ble_eq_true g) e
 | .yl b, x, g, e => by
  simp only [V, sbV] at e ⊢; simp only [lowV] at g; obtain ⟨p, hp, e⟩ := e
  exact ⟨p, through_bl (Nat.le_of_ble_eq_true g) hp, e⟩
 | .sls b sz o ln i, x, g, e => by
  simp only [V, sbV] at e ⊢
  simp only [lowV] at g
  split at g
  case h_2 => cases g
  rename_i g1 g2 g3
  obtain ⟨oz, n, h1, h2, e⟩ := e
  refine ⟨oz, n, nz_sb hf g2 h1, nz_sb hf g3 h2, ?_⟩
  have g' := Nat.le_of_ble_eq_true g
  rcases e with e | ⟨p, κ, hp, e, hk⟩
  ·exact .inl e
  ·refine .inr ⟨p, κ, through_bl (Nat.le_of_ble_eq_true g1) hp, e, ?_⟩
   match i, g', hk with
   | 0, _, hk =>
    rcases hk with hk | ⟨h, _⟩ | ⟨_, _, h, _⟩
    ·exact .inl hk
    ·cases h
    ·cases h
   | 1, _, hk =>
    rcases hk with ⟨h, _⟩ | hk | ⟨_, _, h, _⟩
    ·cases h
    ·exact .inr (.inl hk)
    ·cases h
   | i + 2, g', hk =>
    rcases hk with ⟨h, _⟩ | ⟨h, _⟩ | ⟨j, a, h, h2, h3⟩
    ·cases h
    ·cases h
    ·have : r.dr i = j := by simpa using h
     subst this
     exact .inr (.inr ⟨i, a, rfl, through_cp (by omega) h2, h3⟩)
 | .pls b sz j o, x, g, e => by
  simp only [V, sbV] at e ⊢
  simp only [lowV] at g
  split at g
  case h_2 => cases g
  rename_i g1
  obtain ⟨jz, h1, p, hp, e⟩ := e
  exact ⟨jz, nz_sb hf g h1, p, through_bl (Nat.le_of_ble_eq_true g1) hp, e⟩
theorem Vs_sb {r : Rn} {σ : Sg} {Y : Nat → Value} (hf : Fits r σ Y) : ∀ (v : List AV) (x : List Value), lowVs (r.n0 + r.nb.length) (r.c0 + r.cb.length) (r.K + r.outs.length) v = true → Vs σ (sbVs r v) x → Vs (σ.through r Y) v x
 | [], x, _, e => by simpa [Vs, sbVs] using e
 | v :: l, x, g, e => by
  simp only [Vs, sbVs] at e ⊢
  simp only [lowVs] at g
  split at g
  case h_2 => cases g
  rename_i g1
  obtain ⟨y, l, e, h1, h2⟩ := e
  exact ⟨y, l, e, V_sb hf _ _ g1 h1, Vs_sb hf _ _ g h2⟩
theorem Cs_sb {r : Rn} {σ : Sg} {Y : Nat → Value} (hf : Fits r σ Y) : ∀ (v : List AV) (x : List Value), lowVs (r.n0 + r.nb.length) (r.c0 + r.cb.length) (r.K + r.outs.length) v = true → Cs σ (sbVs r v) x → Cs (σ.through r Y) v x
 | [], x, _, e => by simpa [Cs, sbVs] using e
 | .bs n N :: l, x, g, e => by
  simp only [sbVs, sbV, Cs] at e ⊢
  simp only [lowVs, lowV] at g
  obtain ⟨l', e, h⟩ := e
  exact ⟨l', e, Cs_sb hf _ _ g h⟩
 | .top :: l, x, g, e => by
  simp only [sbVs, sbV, Cs] at e ⊢
  simp only [lowVs, lowV] at g
  obtain ⟨y, l', e, h⟩ := e
  exact ⟨y, l', e, Cs_sb hf _ _ g h⟩
 | v :: l, x, g, e => by
  simp only [lowVs] at g
  split at g
  case h_2 => cases g
  rename_i g1
  have key : ∀ i, v = .sym i → (∀ n N, r.sv i ≠ .bs n N) ∧ r.sv i ≠ .top := by
   rintro i rfl
   simp only [lowV] at g1
   have hi := Nat.le_of_ble_eq_true g1
   unfold Rn.sv
   split
   ·rename_i hb
    have hb' := Nat.le_of_ble_eq_true hb
    have hlt : i - r.K < r.outs.length := by omega
    have hg : r.outs[Nat.sub i r.K]? = some r.outs[i - r.K] := List.getElem?_eq_getElem hlt
    rw [hg]
    simp only [Option.getD_some]
    have hn := hf.new _ _ (List.getElem?_eq_getElem hlt)
    generalize r.outs[i - r.K] = u at *
    cases u <;> simp [vv, iv] at hn <;> simp
   ·simp
  simp only [sbVs] at e
  rw [Cs_cons] at e ⊢
  rcases e with ⟨n, N, l', h0, h1, h2⟩ | ⟨y, l', h0, h1, h2⟩ | ⟨y, l', h1, h2, h3⟩
  ·cases v <;> simp only [sbV, reduceCtorEq] at h0
   case bs a b => cases h0; exact .inl ⟨_, _, l', rfl, h1, Cs_sb hf _ _ g h2⟩
   case sym i => exact ((key i rfl).1 _ _ h0).elim
  ·cases v <;> simp only [sbV, reduceCtorEq] at h0
   case top => exact .inr (.inl ⟨y, l', rfl, h1, Cs_sb hf _ _ g h2⟩)
   case sym i => exact ((key i rfl).2 h0).elim
  ·exact .inr (.inr ⟨y, l', h1, V_sb hf _ _ g1 h2, Cs_sb hf _ _ g h3⟩)
end
def isI (n : Nat) : AV → Bool
 | .int _ (.ofNat m) => Nat.beq m n
 | _ => false
theorem isI_nz {n : Nat} {v : AV} (h : isI n v = true) (sy : Nat → Value) : nz sy v = some ((n : Nat) : Int) := by
 unfold isI at h
 split at h
 ·have := Nat.eq_of_beq_eq_true h
  subst this; rfl
 ·cases h
def mtL (b sz : Nat) (o ln : AV) (x : Nat) : AV → Bool
 | .ns => match isI 0 o with
  | true => isI 0 ln
  | false => false
 | .sl b' o' n c x' => match Nat.beq b b', Nat.beq o' 0, isI 0 o, isI n ln, Nat.beq n c with
  | true, true, true, true, true => match x' with
   | 0 => Nat.beq x 0
   | j + 1 => Nat.beq x (Nat.succ (Nat.succ j))
  | _, _, _, _, _ => false
 | v => eqAV v (.sls b sz o ln x)
def mtC (v v' : AV) (m : Bool) : Bool := match eqC v v' with
 | true => true
 | false => match v with
  | .bs _ _ => false
  | .top => false
  | _ => match v' with
   | .top => true
   | .bs _ _ => false
   | _ => m
theorem mtC_ok {v v' : AV} {m : Bool} (h : mtC v v' m = true) : v = v' ∨ ((∀ n N, v ≠ .bs n N) ∧ v ≠ .top ∧ (v' = .top ∨ m = true)) := by
 unfold mtC at h
 split at h
 ·rename_i hc
  have := eqCs_ok (v := [v]) (w := [v']) (by simp only [eqCs, hc])
  simp only [List.cons.injEq, and_true] at this
  exact .inl this
 ·split at h
  ·cases h
  ·cases h
  ·rename_i hb ht
   refine .inr ⟨fun n N e => hb n N e, fun e => ht e, ?_⟩
   split at h
   ·exact .inl rfl
   ·cases h
   ·exact .inr h
mutual
def mtV : AV → AV → Bool
 | .agg cs, w => match w with
  | .agg cs' => mtVs cs cs'
  | _ => false
 | .tup cs, w => match w with
  | .tup cs' => mtTs cs cs'
  | _ => false
 | v, w => match w with
  | .sls b sz o ln x => mtL b sz o ln x v
  | w => eqAV v w
def mtVs : List AV → List AV → Bool
 | [], w => match w with
  | [] => true
  | _ => false
 | v :: r, w => match w with
  | v' :: r' => match mtC v v' (mtV v v') with
   | true => mtVs r r'
   | false => false
  | _ => false
def mtTs : List AV → List AV → Bool
 | [], w => match w with
  | [] => true
  | _ => false
 | v :: r, w => match w with
  | v' :: r' => match mtV v v' with
   | true => mtTs r r'
   | false => false
  | _ => false
end
theorem mtL_ok {σ : Sg} {b sz : Nat} {o ln v : AV} {x : Nat} {u : Value} (h : mtL b sz o ln x v = true) (hv : V σ v u) : V σ (.sls b sz o ln x) u := by
 unfold mtL at h
 split at h
 ·split at h
  case h_2 => cases h
  rename_i h1
  simp only [V] at hv ⊢
  exact ⟨0, 0, isI_nz h1 _, isI_nz h _, .inl ⟨rfl, none, hv⟩⟩
 ·rename_i b' o' n c x'
  split at h
  case h_2 => cases h
  rename_i h1 h2 h3 h4 h5
  have e1 := Nat.eq_of_beq_eq_true h1
  have e2 := Nat.eq_of_beq_eq_true h2
  have e5 := Nat.eq_of_beq_eq_true h5
  subst e1; subst e2; subst e5
  simp only [V] at hv ⊢
  obtain ⟨p, κ, hp, e, hk⟩ := hv
  refine ⟨0, n, isI_nz h3 _, isI_nz h4 _, .inr ⟨p, κ, hp, by simpa using e, ?_⟩⟩
  split at h
  ·have := Nat.eq_of_beq_eq_true h
   subst this
   rcases hk with ⟨_, hk⟩ | ⟨_, _, h', _⟩
   ·exact .inl ⟨rfl, hk⟩
   ·cases h'
  ·rename_i j
   have := Nat.eq_of_beq_eq_true h
   subst this
   rcases hk with ⟨h', _⟩ | ⟨j', e', h1, h2, h3⟩
   ·cases h'
   ·have : j = j' := by simpa using h1
    subst this
    exact .inr (.inr ⟨j, e', rfl, h2, h3⟩)
 ·rw [← eqAV_ok _ _ h]; exact hv
theorem mtVs_cons {v : AV} {r w : List AV} (h : mtVs (v :: r) w = true) : ∃ v' r', w = v' :: r' ∧ (v = v' ∨ ((∀ n N, v ≠ .bs n N) ∧ v ≠ .top ∧ (v' = .top ∨ mtV v v' = true))) ∧ mtVs r r' = true := by
 cases w with
 | nil => simp only [mtVs] at h; cases h
 | cons v' r' =>
  simp only [mtVs] at h
  cases hc : mtC v v' (mtV v v') with
  | true => rw [hc] at h; exact ⟨v', r', rfl, mtC_ok hc, h⟩
  | false => rw [hc] at h; cases h
theorem mtV_flat {σ : Sg} (v w : AV) (u : Value) (h1 : ∀ cs, v ≠ .agg cs) (h2 : ∀ cs, v ≠ .tup cs) (h : mtV v w = true) (hv : V σ v u) : V σ w u := by
 have gen : (match (generalizing := false) w with
  | .sls b sz o ln x => mtL b sz o ln x v
  | w => eqAV v w) = true → V σ w u := by
  intro h
  split at h
  ·exact mtL_ok h hv
  ·rw [← eqAV_ok _ _ h]; exact hv
 cases v
 case agg cs => exact (h1 _ rfl).elim
 case tup cs => exact (h2 _ rfl).elim
 all_goals (simp only [mtV] at h; exact gen h)
mutual
theorem mtV_ok {σ : Sg} (v w : AV) (u : Value) (h : mtV v w = true) (hv : V σ v u) : V σ w u := by
 match v, h, hv with
 | .agg cs, h, hv =>
  simp only [mtV] at h
  split at h
  case h_2 => cases h
  simp only [V] at hv ⊢
  obtain ⟨l, hl, e⟩ := hv
  exact ⟨l, mtVs_ok _ _ _ h hl, e⟩
 | .tup cs, h, hv =>
  simp only [mtV] at h
  split at h
  case h_2 => cases h
  simp only [V] at hv ⊢
  obtain ⟨l, hl, e⟩ := hv
  exact ⟨l, mtTs_ok _ _ _ h hl, e⟩
 | .bool _, h, hv | .int _ _, h, hv | .str _ _, h, hv | .ptr _ _, h, hv | .np, h, hv | .sl _ _ _ _ _, h, hv | .ns, h, hv | .mp _, h, hv | .nm, h, hv | .fn _ _ _, h, hv | .nf, h, hv | .ifc _ _, h, hv | .ni, h, hv | .bs _ _, h, hv | .top, h, hv | .sym _, h, hv | .yl _, h, hv | .sls _ _ _ _ _, h, hv | .pls _ _ _ _, h, hv => exact mtV_flat _ w u (by simp) (by simp) h hv
 termination_by SizeOf.sizeOf v
 decreasing_by all_goals (simp_wf; try omega)
theorem mtVs_ok {σ : Sg} (vs w : List AV) (l : List Value) (h : mtVs vs w = true) (hv : Cs σ vs l) : Cs σ w l := by
 match vs, h, hv with
 | [], h, hv =>
  simp only [mtVs] at h
  split at h
  ·exact hv
  ·cases h
 | v :: r, h, hv =>
  obtain ⟨v', r', e, h1, h2⟩ := mtVs_cons h
  rw [e]
  rw [Cs_cons] at hv
  rcases hv with ⟨n, N, l', e0, e1, e2⟩ | ⟨y, l', e0, e1, e2⟩ | ⟨y, l', e1, e2, e3⟩
  ·rcases h1 with h1 | ⟨hb, _⟩
   ·rw [← h1, Cs_cons]
    exact .inl ⟨n, N, l', e0, e1, mtVs_ok r r' _ h2 e2⟩
   ·exact (hb n N e0).elim
  ·rcases h1 with h1 | ⟨_, ht, _⟩
   ·rw [← h1, Cs_cons]
    exact .inr (.inl ⟨y, l', e0, e1, mtVs_ok r r' _ h2 e2⟩)
   ·exact (ht e0).elim
  ·rw [Cs_cons]
   rcases h1 with h1 | ⟨_, _, h1 | h1⟩
   ·rw [← h1]
    exact .inr (.inr ⟨y, l', e1, e2, mtVs_ok r r' _ h2 e3⟩)
   ·exact .inr (.inl ⟨y, l', h1, e1, mtVs_ok r r' _ h2 e3⟩)
   ·exact .inr (.inr ⟨y, l', e1, mtV_ok v v' y h1 e2, mtVs_ok r r' _ h2 e3⟩)
 termination_by SizeOf.sizeOf vs
 decreasing_by all_goals (simp_wf; omega)
theorem mtTs_ok {σ : Sg} (vs w : List AV) (l : List Value) (h : mtTs vs w = true) (hv : Vs σ vs l) : Vs σ w l := by
 match vs, h, hv with
 | [], h, hv =>
  simp only [mtTs] at h
  split at h
  ·exact hv
  ·cases h
 | v :: r, h, hv =>
  simp only [mtTs] at h
  split at h
  case h_2 => cases h
  split at h
  case h_2 => cases h
  rename_i hm
  simp only [Vs] at hv ⊢
  obtain ⟨y, l', e, h1, h2⟩ := hv
  exact ⟨y, l', e, mtV_ok _ _ _ hm h1, mtTs_ok _ _ _ h h2⟩
 termination_by SizeOf.sizeOf vs
 decreasing_by all_goals (simp_wf; omega)
end
end
end Go.Proofs.YtocabeobfbhajaaGreatDoor.Sx
end
section
namespace Go.Proofs.YtocabeobfbhajaaGreatDoor.Sx
noncomputable section
open Go Go.RowKit
def Tm.tp1 : Tm1 := ⟨.top, .top, .top, .top, .top, .top, .top, .top⟩
def Tm.tp2 : Tm2 := ⟨tp1, tp1, tp1, tp1, tp1, tp1, tp1, tp1⟩
def Tm.tp : Tm := ⟨tp2, tp2, tp2, tp2, tp2, tp2, tp2, tp2⟩
theorem Tm.get_tp (k : Nat) : Tm.tp.get k = if k < 512 then .top else .tup [] := by
 unfold Tm.get
 by_cases h : k < 512
 ·rw [toPT_yes h, if_pos h]
  show (tm1s _ (tm2s _ (tm3s _ Tm.tp))) = .top
  simp only [tm3s_eq, tm2s_eq, tm1s_eq]
  rw [show sel (dig (k / 64)) Tm.tp = Tm.tp2 from sel_all _ _]
  rw [show sel (dig (k / 8)) Tm.tp2 = Tm.tp1 from sel_all _ _]
  rw [show sel (dig k) Tm.tp1 = AV.top from sel_all _ _]
 ·rw [toPT_no h, if_neg h]
def putsT : List (Nat × AV) → Tm → Tm
 | [], t => t
 | (k, v) :: r, t => putsT r (Tm.put v t k)
theorem putsT_ok {σ : Sg} {x : Nat → Value} : ∀ (l : List (Nat × AV)) (T : Tm), (∀ t, V σ (tget T t) (x t)) → (∀ p, p ∈ l → p.1 < 512 ∧ V σ p.2 (x p.1)) → ∀ t, V σ (tget (putsT l T) t) (x t)
 | [], T, h, _, t => h t
 | (k, v) :: r, T, h, hl, t => by
  refine putsT_ok r _ (fun t => ?_) (fun p hp => hl p (List.mem_cons_of_mem _ hp)) t
  have h1 := hl (k, v) List.mem_cons_self
  show V σ ((Tm.put v T k).get t) (x t)
  rw [Tm.get_put v T k t h1.1]
  split
  ·rename_i e; subst e; exact h1.2
  ·exact h t
structure Head where
 keep : List (Nat × AV)
 bs : Bs
 n0 : Nat
 nx : Nat
 c0 : Nat
 nc : Nat
 K : Nat
 K' : Nat
def Head.T (H : Head) : Tm := putsT H.keep Tm.tp
def Head.st (H : Head) : St := ⟨putAll H.bs Mm.lf, H.nx, H.nc⟩
def Sg.at' (σ : Sg) (Y : Nat → Value) : Sg := { σ with sy := Y }
def Gl.at (G : Gl) (Y : Nat → Value) : Gl := { G with sy := Y }
structure Hd (G : Gl) (H : Head) (nt : Nat) (σ0 : Sg) (w0 : World) (I0 : Nat → Prop) (Y : Nat → Value) (a : Act) (w : World) : Prop where
 sg : ∃ σ : Sg, (∀ n, n < H.n0 → σ.bl n = σ0.bl n) ∧ (∀ n, n < H.c0 → σ.cp n = σ0.cp n) ∧ Ds (G.at Y) σ H.st.ms w ∧ Ta σ nt (tget H.T) a ∧ (∀ k, Im σ H.st.ms k → w0.heap.size ≤ k ∨ I0 k)
 df : a.defers = []
 chg : Chg I0 w0 w
theorem head_g {H : Head} (h : smallB H.bs = true) (n : Nat) : H.st.ms.g n = lk H.bs n := by
 show (putAll H.bs Mm.lf).get n = _
 rw [putAll_get _ _ h n, Mm.get_lf]
 cases lk H.bs n <;> rfl
def Rn.sc (r : Rn) (i : Nat) : Option AV := match Nat.ble r.K i with
 | true => r.outs[Nat.sub i r.K]?
 | false => some (.sym i)
def isSym (c : Nat) : Option AV → Bool
 | some (.sym i) => Nat.beq i c
 | _ => false
def isRow (cs : List AV) : Option AV → Bool
 | some (.agg ds) => eqAVs ds cs
 | _ => false
def drX (r : Rn) (x : Nat) : Nat := match x with
 | 0 => 0
 | i + 1 => Nat.succ (r.dr i)
def mtB (r : Rn) (nc : Nat) : AB → AB → Bool
 | .cells cs x z, w => match w with
  | .cells cs' x' z' => match Nat.beq x (drX r x'), Nat.beq z z', Nat.ble x' nc with
   | true, true, true => mtVs cs (sbVs r cs')
   | _, _, _ => false
  | .lst c sz x' => match Nat.beq x (drX r x'), Nat.beq z sz, Nat.ble x' nc, onesA cs with
   | true, true, true, true => isRow cs (r.sc c)
   | _, _, _, _ => false
  | _ => false
 | .lst c sz x, w => match w with
  | .lst c' sz' x' => match Nat.beq x (drX r x'), Nat.beq sz sz', Nat.ble x' nc with
   | true, true, true => isSym c (r.sc c')
   | _, _, _ => false
  | _ => false
 | .dfr true, w => match w with
  | .dfr true => true
  | _ => false
 | .sit n N p, w => match w with
  | .sit n' N' p' => match Nat.beq n n', Nat.beq N N', Nat.beq p p' with
   | true, true, true => true
   | _, _, _ => false
  | _ => false
 | .map es c, w => match w with
  | .map es' c' => match Nat.beq c c' with
   | true => mtEs r es es'
   | false => false
  | _ => false
 | _, _ => false
 where
 mtEs (r : Rn) : List (AV × AV × Nat) → List (AV × AV × Nat) → Bool
  | [], w => match w with
   | [] => true
   | _ => false
  | (k, v, b) :: l, w => match w with
   | (k', v', b') :: l' => match mtV k (sbV r k'), mtV v (sbV r v'), Nat.beq b b' with
    | true, true, true => mtEs r l l'
    | _, _, _ => false
   | _ => false
def lowEs (nx nc K : Nat) : List (AV × AV × Nat) → Bool
 | [] => true
 | (k, v, _) :: r => match lowV nx nc K k, lowV nx nc K v with
  | true, true => lowEs nx nc K r
  | _, _ => false
def lowB (nx nc K : Nat) : AB → Bool
 | .cells cs ext _ => match lowVs nx nc K cs with
  | true => Nat.ble ext nc
  | false => false
 | .lst c _ x => match Nat.ble (Nat.succ c) K with
  | true => Nat.ble x nc
  | false => false
 | .map es _ => lowEs nx nc K es
 | .sit _ _ _ => true
 | .dfr _ => true
 | _ => false
section
variable {r : Rn} {σ : Sg} {Y : Nat → Value}
theorem drX_ok {x z y : Nat} (hx : x ≤ r.c0 + r.cb.length) (h : Xt σ (drX r x) z y) : Xt (σ.through r Y) x z y := by
 cases x with
 | zero =>
  rcases h with h | ⟨i, e, h1, _⟩
  ·exact .inl h
  ·cases h1
 | succ x =>
  rcases h with ⟨h, _⟩ | ⟨i, e, h1, h2, h3⟩
  ·cases h
  ·have : r.dr x = i := by simpa [drX] using h1
   subst this
   exact .inr ⟨x, e, rfl, through_cp (by omega) h2, h3⟩
theorem sc_ok (hf : Fits r σ Y) {c : Nat} {v : AV} (h : r.sc c = some v) : vv σ.sy v = some (Y c) := by
 unfold Rn.sc at h
 split at h
 ·rename_i hb
  have := Nat.le_of_ble_eq_true hb
  have := hf.new _ _ h
  rwa [Nat.sub_eq, Nat.add_sub_cancel' (by omega)] at this
 ·rename_i hb
  have := ble_false hb
  cases h
  simp only [vv, iv]
  rw [hf.old c this]
theorem mtEs_ok (hf : Fits r σ Y) : ∀ (a w : List (AV × AV × Nat)) (l : List MapEntry), mtB.mtEs r a w = true → lowEs (r.n0 + r.nb.length) (r.c0 + r.cb.length) (r.K + r.outs.length) w = true → Es σ a l → Es (σ.through r Y) w l
 | [], w, l, h, hl, e => by
  simp only [mtB.mtEs] at h
  split at h
  ·simpa [Es] using e
  ·cases h
 | (k, v, b) :: a, w, l, h, hl, e => by
  simp only [mtB.mtEs] at h
  split at h
  case h_2 => cases h
  rename_i k' v' b' l'
  split at h
  case h_2 => cases h
  rename_i h1 h2 h3
  have h3 := Nat.eq_of_beq_eq_true h3
  subst h3
  simp only [lowEs] at hl
  split at hl
  case h_2 => cases hl
  rename_i g1 g2
  simp only [Es] at e ⊢
  obtain ⟨x, y, l1, e, e1, e2, e3⟩ := e
  exact ⟨x, y, l1, e, V_sb hf _ _ g1 (mtV_ok _ _ _ h1 e1), V_sb hf _ _ g2 (mtV_ok _ _ _ h2 e2), mtEs_ok hf a l' l1 h hl e3⟩
theorem mtB_ok (hf : Fits r σ Y) {o : Nat} {a w : AB} {ob : Obj} (h : mtB r (r.c0 + r.cb.length) a w = true) (hl : lowB (r.n0 + r.nb.length) (r.c0 + r.cb.length) (r.K + r.outs.length) w = true) (e : BO σ o a ob) : BO (σ.through r Y) o w ob := by
 unfold mtB at h
 split at h
 ·rename_i cs x z
  obtain ⟨c, t, fr, e1, e0, l, y, e2, e3, e4, e5⟩ := e
  split at h
  case h_3 => cases h
  ·split at h
   case h_2 => cases h
   rename_i h1 h2 h3
   have h1 := Nat.eq_of_beq_eq_true h1
   have h2 := Nat.eq_of_beq_eq_true h2
   subst h1; subst h2
   simp only [lowB] at hl
   split at hl
   case h_2 => cases hl
   rename_i hl'
   exact ⟨c, t, fr, e1, e0, l, y, Cs_sb hf _ _ hl' (mtVs_ok _ _ _ h e2), drX_ok (Nat.le_of_ble_eq_true h3) e3, e4, e5⟩
  ·rename_i c' sz x'
   split at h
   case h_2 => cases h
   rename_i h1 h2 h3 h4
   have h1 := Nat.eq_of_beq_eq_true h1
   have h2 := Nat.eq_of_beq_eq_true h2
   subst h1; subst h2
   unfold isRow at h
   split at h
   case h_2 => cases h
   rename_i ds hd
   have hv := sc_ok hf hd
   have := eqAVs_ok _ _ h
   subst this
   simp only [vv] at hv
   split at hv
   case h_2 => cases hv
   rename_i l' hl'
   have hll := ivs_of e2 hl'
   subst hll
   refine ⟨c, t, fr, e1, e0, l.toArray, y, (Option.some.inj hv).symm, ?_, drX_ok (Nat.le_of_ble_eq_true h3) e3, by simpa using e4, fun i v hv => e5 i v (by simpa using hv)⟩
   simpa using onesA_ok _ _ h4 e2
 ·rename_i c sz x
  split at h
  case h_2 => cases h
  rename_i c' sz' x'
  split at h
  case h_2 => cases h
  rename_i h1 h2 h3
  have h1 := Nat.eq_of_beq_eq_true h1
  have h2 := Nat.eq_of_beq_eq_true h2
  subst h1; subst h2
  obtain ⟨cl, t, fr, e1, e0, l, y, e2, e3, e4, e5, e6⟩ := e
  unfold isSym at h
  split at h
  case h_2 => cases h
  rename_i i hi
  have := Nat.eq_of_beq_eq_true h
  subst this
  have hv := sc_ok hf hi
  simp only [vv, iv, Option.some.injEq] at hv
  exact ⟨cl, t, fr, e1, e0, l, y, hv.symm.trans e2, e3, drX_ok (Nat.le_of_ble_eq_true h3) e4, e5, e6⟩
 ·split at h
  ·exact e
  ·cases h
 ·split at h
  case h_2 => cases h
  split at h
  case h_2 => cases h
  rename_i h1 h2 h3
  have h1 := Nat.eq_of_beq_eq_true h1
  have h2 := Nat.eq_of_beq_eq_true h2
  have h3 := Nat.eq_of_beq_eq_true h3
  subst h1; subst h2; subst h3
  exact e
 ·split at h
  case h_2 => cases h
  split at h
  case h_2 => cases h
  rename_i h1
  have h1 := Nat.eq_of_beq_eq_true h1
  subst h1
  obtain ⟨e0, l, e1, e2⟩ := e
  exact ⟨e0, l, mtEs_ok hf _ _ _ h (by simpa [lowB] using hl) e1, e2⟩
 ·cases h
theorem mtB_nil (hf : Fits r σ Y) {nc : Nat} {a w : AB} (h : mtB r nc a w = true) (e : NL σ a) : NL (σ.through r Y) w := by
 cases a <;> first | exact e.elim | skip
 rename_i c sz x
 simp only [mtB] at h
 split at h
 case h_2 => cases h
 split at h
 case h_2 => cases h
 unfold isSym at h
 split at h
 case h_2 => cases h
 rename_i i hi
 have := Nat.eq_of_beq_eq_true h
 subst this
 have hv := sc_ok hf hi
 simp only [vv, iv, Option.some.injEq] at hv
 exact hv.symm.trans e
end
def chkKeep (r : Rn) (nx nc K : Nat) (T : Tm) : List (Nat × AV) → Bool
 | [] => true
 | (t, v) :: l => match lowV nx nc K v with
  | true => match Nat.ble t 511 with
   | true => match mtV (tget T t) (sbV r v) with
    | true => chkKeep r nx nc K T l
    | false => false
   | false => false
  | false => false
def chkMem (r : Rn) (nx nc K : Nat) (s : St) : Bs → Bool
 | [] => true
 | (n, ab) :: l => match s.mem.get (r.nm n) with
  | some ab' => match mtB r nc ab' ab with
   | true => match lowB nx nc K ab with
    | true => match Nat.ble (Nat.succ n) nx with
     | true => chkMem r nx nc K s l
     | false => false
    | false => false
   | false => false
  | none => false
def memNB (k : Nat) : List Nat → Bool
 | [] => false
 | x :: r => match Nat.beq x k with
  | true => true
  | false => memNB k r
def nodupN : List Nat → Bool
 | [] => true
 | x :: r => match memNB x r with
  | true => false
  | false => nodupN r
theorem memNB_of {k : Nat} : ∀ {l : List Nat}, k ∈ l → memNB k l = true
 | x :: r, h => by
  unfold memNB
  rcases List.mem_cons.1 h with rfl | h
  ·rw [Nat.beq_refl]
  ·split
   ·rfl
   ·exact memNB_of h
def nmsB (r : Rn) : Bs → List Nat
 | [] => []
 | (n, _) :: l => r.nm n :: nmsB r l
def addNils : List Nat → St → St
 | [], s => s
 | sz :: l, s => addNils l { mem := Mm.put (some (.lst 0 sz (Nat.succ s.nc))) s.mem s.nx, nx := Nat.succ s.nx, nc := Nat.succ s.nc }
def chkH (H : Head) (r : Rn) (nils : List Nat) (T : Tm) (s0 : St) : Bool := match Nat.ble (Nat.add s0.nx nils.length) topName with
 | true => match chkKeep r H.nx H.nc H.K' T H.keep with
  | true => match chkMem r H.nx H.nc H.K' (addNils nils s0) H.bs with
   | true => match smallB H.bs with
    | true => match nodupN (nmsB r H.bs) with
     | true => match Nat.beq r.n0 H.n0, Nat.beq r.c0 H.c0, Nat.beq r.K H.K with
      | true, true, true => match Nat.beq (Nat.add r.n0 r.nb.length) H.nx, Nat.beq (Nat.add r.c0 r.cb.length) H.nc, Nat.beq (Nat.add r.K r.outs.length) H.K' with
       | true, true, true => true
       | _, _, _ => false
      | _, _, _ => false
     | false => false
    | false => false
   | false => false
  | false => false
 | false => false
theorem addNils_ok {G : Gl} (h0 : G.sy 0 = .agg #[]) {σ : Sg} : ∀ (l : List Nat) (s : St) (w : World), s.nx + l.length ≤ topName → Ds G σ s.ms w → Ds G σ (addNils l s).ms w ∧ Ex σ s.ms w σ (addNils l s).ms w
 | [], s, w, _, d => ⟨d, Ex.refl _ _ _⟩
 | sz :: l, s, w, hx, d => by
  simp only [List.length_cons] at hx
  obtain ⟨d1, x1⟩ := d.addNil (ab := .lst 0 sz (s.nc + 1)) (by show σ.sy 0 = _; rw [d.sy]; exact h0)
  have hms := newL_ms (s := s) (sz := sz) (c' := 0) (by omega)
  rw [show (⟨fun n => if n = s.ms.nx then some (AB.lst 0 sz (s.nc + 1)) else s.ms.g n, s.ms.nx + 1, s.ms.nc + 1⟩ : MS) = _ from hms.symm] at d1 x1
  obtain ⟨d2, x2⟩ := addNils_ok h0 l _ w (by show s.nx + 1 + l.length ≤ topName; omega) d1
  exact ⟨d2, x1.trans x2⟩
theorem chkKeep_ok {r : Rn} {nx nc K : Nat} {T : Tm} : ∀ {l : List (Nat × AV)}, chkKeep r nx nc K T l = true → ∀ p, p ∈ l → mtV (tget T p.1) (sbV r p.2) = true ∧ lowV nx nc K p.2 = true ∧ p.1 < 512
 | [], _, p, hp => by cases hp
 | (t, v) :: l, h, p, hp => by
  unfold chkKeep at h
  split at h
  case h_2 => cases h
  rename_i h1
  split at h
  case h_2 => cases h
  rename_i h2
  split at h
  case h_2 => cases h
  rename_i h3
  rcases List.mem_cons.1 hp with rfl | hp
  ·exact ⟨h3, h1, Nat.lt_succ_of_le (Nat.le_of_ble_eq_true h2)⟩
  ·exact chkKeep_ok h p hp
theorem chkMem_ok {r : Rn} {nx nc K : Nat} {s : St} : ∀ {l : Bs}, chkMem r nx nc K s l = true → ∀ n ab, lk l n = some ab → ∃ ab', s.mem.get (r.nm n) = some ab' ∧ mtB r nc ab' ab = true ∧ lowB nx nc K ab = true ∧ n < nx
 | [], _, n, ab, e => by cases e
 | (m, a) :: l, h, n, ab, e => by
  unfold chkMem at h
  split at h
  case h_2 => cases h
  rename_i a' h0
  split at h
  case h_2 => cases h
  rename_i h1
  split at h
  case h_2 => cases h
  rename_i h2
  split at h
  case h_2 => cases h
  rename_i h3
  simp only [lk] at e
  cases hr : lk l n with
  | some x =>
   rw [hr] at e
   simp only [Option.some_or, Option.some.injEq] at e
   subst e
   exact chkMem_ok h n _ hr
  | none =>
   rw [hr] at e
   simp only [Option.none_or] at e
   split at e
   ·rename_i hn
    cases e
    subst hn
    exact ⟨a', h0, h1, h2, Nat.le_of_ble_eq_true h3⟩
   ·cases e
theorem lk_nms {r : Rn} : ∀ {l : Bs} {n : Nat} {ab : AB}, lk l n = some ab → r.nm n ∈ nmsB r l
 | [], n, ab, e => by cases e
 | (m, a) :: l, n, ab, e => by
  simp only [lk] at e
  cases hr : lk l n with
  | some x => exact List.mem_cons_of_mem _ (lk_nms hr)
  | none =>
   rw [hr] at e
   simp only [Option.none_or] at e
   split at e
   ·rename_i hn; subst hn; exact List.mem_cons_self
   ·cases e
theorem nms_inj {r : Rn} : ∀ {l : Bs}, nodupN (nmsB r l) = true → ∀ {n m : Nat} {ab ab' : AB}, lk l n = some ab → lk l m = some ab' → r.nm n = r.nm m → n = m
 | [], _, n, m, ab, ab', e, _, _ => by cases e
 | (k, a) :: l, h, n, m, ab, ab', e1, e2, e => by
  simp only [nmsB, nodupN] at h
  split at h
  case h_1 => cases h
  rename_i hm
  have hno : ∀ {j : Nat} {b : AB}, lk l j = some b → r.nm j ≠ r.nm k := by
   intro j b hj he
   have := memNB_of (lk_nms (r := r) hj)
   rw [he, hm] at this
   cases this
  simp only [lk] at e1 e2
  cases h1 : lk l n with
  | some x =>
   cases h2 : lk l m with
   | some y => exact nms_inj h h1 h2 e
   | none =>
    rw [h2] at e2
    simp only [Option.none_or] at e2
    split at e2
    ·rename_i hk; subst hk; exact (hno h1 e).elim
    ·cases e2
  | none =>
   rw [h1] at e1
   simp only [Option.none_or] at e1
   split at e1
   case isFalse => cases e1
   rename_i hk
   subst hk
   cases h2 : lk l m with
   | some y => exact (hno h2 e.symm).elim
   | none =>
    rw [h2] at e2
    simp only [Option.none_or] at e2
    split at e2
    ·rename_i hk; exact hk.symm
    ·cases e2
theorem nm_low {r : Rn} {n : Nat} (h : n < r.n0) : r.nm n = n := by
 unfold Rn.nm
 split
 ·rename_i hb; have := Nat.le_of_ble_eq_true hb; omega
 ·rfl
theorem dr_low {r : Rn} {n : Nat} (h : n < r.c0) : r.dr n = n := by
 unfold Rn.dr
 split
 ·rename_i hb; have := Nat.le_of_ble_eq_true hb; omega
 ·rfl
theorem Hd.of {G : Gl} {H : Head} {r : Rn} {nils : List Nat} {nt : Nat} {σ0 σ : Sg} {w0 w : World} {I0 : Nat → Prop} {Y Y' : Nat → Value} {a : Act} {T : Tm} {s : St} (d : Ds (G.at Y) σ s.ms w) (hY0 : Y 0 = .agg #[]) (ta : Ta σ nt (tget T) a) (df : a.defers = [])
  (hbl : ∀ n, n < H.n0 → σ.bl n = σ0.bl n) (hcp : ∀ n, n < H.c0 → σ.cp n = σ0.cp n) (hG : Nat.ble G.n H.n0 = true) (him : ∀ k, Im σ s.ms k → w0.heap.size ≤ k ∨ I0 k)
  (chg : Chg I0 w0 w) (ck : chkH H r nils T s = true) (hf : Fits r (σ.at' Y) Y') : Hd G H nt σ0 w0 I0 Y' a w := by
 unfold chkH at ck
 split at ck
 case h_2 => cases ck
 rename_i c0
 split at ck
 case h_2 => cases ck
 rename_i c1
 split at ck
 case h_2 => cases ck
 rename_i c2
 split at ck
 case h_2 => cases ck
 rename_i c3
 split at ck
 case h_2 => cases ck
 rename_i c4
 split at ck
 case h_2 => cases ck
 rename_i q1 q2 q3
 split at ck
 case h_2 => cases ck
 rename_i q4 q5 q6
 have q1 := Nat.eq_of_beq_eq_true q1
 have q2 := Nat.eq_of_beq_eq_true q2
 have q3 := Nat.eq_of_beq_eq_true q3
 have q4 := Nat.eq_of_beq_eq_true q4
 have q5 := Nat.eq_of_beq_eq_true q5
 have q6 := Nat.eq_of_beq_eq_true q6
 rw [Nat.add_eq] at q4 q5 q6
 have hsy : σ.sy = Y := d.sy
 have hσ : σ.at' Y = σ := by cases σ; simp only [Sg.at'] at *; subst hsy; rfl
 rw [hσ] at hf
 obtain ⟨d1, x1⟩ := addNils_ok (G := G.at Y) hY0 nils s w (by have := Nat.le_of_ble_eq_true c0; simpa using this) d
 have him1 : ∀ k, Im σ (addNils nils s).ms k → w0.heap.size ≤ k ∨ I0 k := by
  intro k hk
  rcases x1.im k hk with h | h
  ·exact .inl (Nat.le_trans chg.size h)
  ·exact him k h
 have hg := head_g c3
 have him2 : ∀ k, Im (σ.through r Y') H.st.ms k → Im σ (addNils nils s).ms k := by
  rintro k ⟨n, ab, p, e1, e2, e3⟩
  rw [hg] at e1
  obtain ⟨ab', f1, f2, f3, f4⟩ := chkMem_ok c2 n ab e1
  refine ⟨r.nm n, ab', p, f1, ?_, e3⟩
  change (if n < r.n0 + r.nb.length then σ.bl (r.nm n) else none) = some p at e2
  rw [if_pos (by omega)] at e2
  exact e2
 refine ⟨⟨σ.through r Y', fun n hn => ?_, fun n hn => ?_, ⟨fun n ab e => ?_, fun n m ab ab' p q hnm e1 e2 e3 e4 => ?_, fun n hn => ?_, fun n hn => ?_, fun g hlt => ?_, rfl, fun k hk => ?_⟩, ?_, fun k hk => him1 k (him2 k hk)⟩, df, chg⟩
 ·show (if n < r.n0 + r.nb.length then σ.bl (r.nm n) else none) = _
  rw [if_pos (by omega), nm_low (by omega)]
  exact hbl n hn
 ·show (if n < r.c0 + r.cb.length then σ.cp (r.dr n) else none) = _
  rw [if_pos (by omega), dr_low (by omega)]
  exact hcp n hn
 ·rw [hg] at e
  obtain ⟨ab', f1, f2, f3, f4⟩ := chkMem_ok c2 n ab e
  rw [← q5] at f2
  rw [← q4, ← q5, ← q6] at f3
  rcases d1.blk _ _ f1 with ⟨p, hp, ob, ho, hb⟩ | ⟨h1, h2, h3⟩
  ·exact .inl ⟨p, through_bl (by omega) hp, ob, ho, mtB_ok hf f2 f3 hb⟩
  ·refine .inr ⟨?_, f4, mtB_nil hf f2 h3⟩
   show (if n < r.n0 + r.nb.length then σ.bl (r.nm n) else none) = none
   rw [h1]; split <;> rfl
 ·rw [hg] at e1 e2
  obtain ⟨a1, f1, f2, f3, f4⟩ := chkMem_ok c2 n ab e1
  obtain ⟨a2, g1, g2, g3, g4⟩ := chkMem_ok c2 m ab' e2
  have hne : r.nm n ≠ r.nm m := fun e => hnm (nms_inj c4 e1 e2 e)
  change (if n < r.n0 + r.nb.length then σ.bl (r.nm n) else none) = some p at e3
  change (if m < r.n0 + r.nb.length then σ.bl (r.nm m) else none) = some q at e4
  rw [if_pos (by omega)] at e3 e4
  exact d1.inj _ _ a1 a2 p q hne f1 g1 e3 e4
 ·have hn' : H.nx ≤ n := hn
  show (if n < r.n0 + r.nb.length then σ.bl (r.nm n) else none) = none
  rw [if_neg (by omega)]
 ·have hn' : H.nc ≤ n := hn
  show (if n < r.c0 + r.cb.length then σ.cp (r.dr n) else none) = none
  rw [if_neg (by omega)]
 ·have h1 := Nat.le_of_ble_eq_true hG
  have h2 : g < G.n := hlt
  show (if g < r.n0 + r.nb.length then σ.bl (r.nm g) else none) = _
  rw [if_pos (by omega), nm_low (by omega)]
  exact d.glob g hlt
 ·obtain ⟨h1, h2, h3⟩ := d1.old k hk
  exact ⟨h1, h2, fun hi => h3 (him2 k hi)⟩
 ·refine ⟨ta.size, ?_⟩
  refine putsT_ok H.keep Tm.tp (fun t => ?_) (fun p hp => ?_)
  ·show V _ (Tm.tp.get t) _
   rw [Tm.get_tp]
   split
   ·simp only [V]
   ·rename_i ht
    have : V σ (tget T t) (a.tmps.getD t undef) := ta.val t
    have hT : tget T t = .tup [] := by
     show T.get t = _
     unfold Tm.get
     rw [toPT_no ht]
    rw [hT] at this
    simpa [V, Vs] using this
  ·obtain ⟨f1, f2, f3⟩ := chkKeep_ok c1 p hp
   rw [← q4, ← q5, ← q6] at f2
   exact ⟨f3, V_sb hf _ _ f2 (mtV_ok _ _ _ f1 (ta.val p.1))⟩
end
end Go.Proofs.YtocabeobfbhajaaGreatDoor.Sx
end
section
namespace Go.Proofs.YtocabeobfbhajaaGreatDoor.Sx
noncomputable section
open Go Go.RowKit
section
variable {r : Rn} (hn : r.nb = []) (hc : r.cb = [])
include hn in
theorem nm_id (n : Nat) : r.nm n = n := by
 unfold Rn.nm
 rw [hn]
 split <;> simp
include hc in
theorem dr_id (n : Nat) : r.dr n = n := by
 unfold Rn.dr
 rw [hc]
 split <;> simp
include hn hc
mutual
theorem sb_id {nx nc : Nat} : ∀ v : AV, lowV nx nc r.K v = true → sbV r v = v
 | .bool b, _ => rfl
 | .int k n, _ => rfl
 | .str n N, _ => rfl
 | .ptr b o, _ => by simp only [sbV, nm_id hn]
 | .np, _ => rfl
 | .sl b o n c i, _ => by
  simp only [sbV, nm_id hn, dr_id hc]
  cases i <;> rfl
 | .ns, _ => rfl
 | .mp b, _ => by simp only [sbV, nm_id hn]
 | .nm, _ => rfl
 | .fn f fs cs, g => by
  simp only [lowV] at g
  split at g
  case h_2 => cases g
  rename_i g1
  simp only [sbV, sbs_id fs g1, sbs_id cs g]
 | .nf, _ => rfl
 | .ifc t v, g => by simp only [lowV] at g; simp only [sbV, sb_id v g]
 | .ni, _ => rfl
 | .agg cs, g => by simp only [lowV] at g; simp only [sbV, sbs_id cs g]
 | .bs _ _, _ => rfl
 | .top, _ => rfl
 | .tup vs, g => by simp only [lowV] at g; simp only [sbV, sbs_id vs g]
 | .sym i, g => by
  simp only [lowV] at g
  have := Nat.le_of_ble_eq_true g
  simp only [sbV]
  unfold Rn.sv
  split
  ·rename_i hb; have := Nat.le_of_ble_eq_true hb; omega
  ·rfl
 | .yl b, _ => by simp only [sbV, nm_id hn]
 | .sls b sz o ln i, g => by
  simp only [lowV] at g
  split at g
  case h_2 => cases g
  rename_i g1 g2 g3
  simp only [sbV, nm_id hn, dr_id hc, sb_id o g2, sb_id ln g3]
  match i with
  | 0 => rfl
  | 1 => rfl
  | i + 2 => rfl
 | .pls b sz j o, g => by
  simp only [lowV] at g
  split at g
  case h_2 => cases g
  simp only [sbV, nm_id hn, sb_id j g]
theorem sbs_id {nx nc : Nat} : ∀ v : List AV, lowVs nx nc r.K v = true → sbVs r v = v
 | [], _ => rfl
 | v :: l, g => by
  simp only [lowVs] at g
  split at g
  case h_2 => cases g
  rename_i g1
  simp only [sbVs, sb_id v g1, sbs_id l g]
end
end
def idR (nx nc K : Nat) : Rn := ⟨nx, [], nc, [], K, []⟩
theorem idFits {nx nc K : Nat} {σ : Sg} {Y : Nat → Value} (h : ∀ i, i < K → Y i = σ.sy i) : Fits (idR nx nc K) σ Y := ⟨h, fun i v e => by simp [idR] at e⟩
theorem V_low {nx nc K : Nat} {σ : Sg} {Y : Nat → Value} (h : ∀ i, i < K → Y i = σ.sy i) {v : AV} {x : Value} (hl : lowV nx nc K v = true) (e : V σ v x) : V (σ.through (idR nx nc K) Y) v x := by
 refine V_sb (idFits h) v x (by simpa [idR] using hl) ?_
 rw [sb_id (r := idR nx nc K) rfl rfl v hl]; exact e
theorem Cs_low {nx nc K : Nat} {σ : Sg} {Y : Nat → Value} (h : ∀ i, i < K → Y i = σ.sy i) {v : List AV} {x : List Value} (hl : lowVs nx nc K v = true) (e : Cs σ v x) : Cs (σ.through (idR nx nc K) Y) v x := by
 refine Cs_sb (idFits h) v x (by simpa [idR] using hl) ?_
 rw [sbs_id (r := idR nx nc K) rfl rfl v hl]; exact e
theorem Xt_low {nx nc K : Nat} {σ : Sg} {Y : Nat → Value} {x z y : Nat} (hx : x ≤ nc) (e : Xt σ x z y) : Xt (σ.through (idR nx nc K) Y) x z y := by
 refine drX_ok (r := idR nx nc K) (by simpa [idR] using hx) ?_
 cases x with
 | zero => exact e
 | succ x => rw [show drX (idR nx nc K) (x + 1) = x + 1 by simp only [drX, dr_id (r := idR nx nc K) rfl]]; exact e
theorem Es_low {nx nc K : Nat} {σ : Sg} {Y : Nat → Value} (h : ∀ i, i < K → Y i = σ.sy i) : ∀ (es : List (AV × AV × Nat)) (l : List MapEntry), lowEs nx nc K es = true → Es σ es l → Es (σ.through (idR nx nc K) Y) es l
 | [], l, _, e => by simpa [Es] using e
 | (k, v, b) :: r, l, hl, e => by
  simp only [lowEs] at hl
  split at hl
  case h_2 => cases hl
  rename_i g1 g2
  simp only [Es] at e ⊢
  obtain ⟨x, y, l1, e, e1, e2, e3⟩ := e
  exact ⟨x, y, l1, e, V_low h g1 e1, V_low h g2 e2, Es_low h r l1 hl e3⟩
theorem BO_low {nx nc K : Nat} {σ : Sg} {Y : Nat → Value} (h : ∀ i, i < K → Y i = σ.sy i) {o : Nat} {ab : AB} {ob : Obj} (hl : lowB nx nc K ab = true) (e : BO σ o ab ob) : BO (σ.through (idR nx nc K) Y) o ab ob := by
 cases ab <;> simp only [lowB] at hl <;> (try cases hl; done)
 case cells cs x z =>
  split at hl
  case h_2 => cases hl
  rename_i hl'
  obtain ⟨c, t, fr, e1, e0, l, y, e2, e3, e4, e5⟩ := e
  exact ⟨c, t, fr, e1, e0, l, y, Cs_low h hl' e2, Xt_low (Nat.le_of_ble_eq_true hl) e3, e4, e5⟩
 case lst c sz x =>
  split at hl
  case h_2 => cases hl
  rename_i hl'
  obtain ⟨cl, t, fr, e1, e0, l, y, e2, e3, e4, e5, e6⟩ := e
  exact ⟨cl, t, fr, e1, e0, l, y, (h c (Nat.le_of_ble_eq_true hl')).trans e2, e3, Xt_low (Nat.le_of_ble_eq_true hl) e4, e5, e6⟩
 case map es c =>
  obtain ⟨e0, l, e1, e2⟩ := e
  exact ⟨e0, l, Es_low h es l hl e1, e2⟩
 case sit => exact e
 case dfr => exact e
theorem NL_low {nx nc K : Nat} {σ : Sg} {Y : Nat → Value} (h : ∀ i, i < K → Y i = σ.sy i) {ab : AB} (hl : lowB nx nc K ab = true) (e : NL σ ab) : NL (σ.through (idR nx nc K) Y) ab := by
 cases ab <;> first | exact e.elim | skip
 rename_i c sz x
 simp only [lowB] at hl
 split at hl
 case h_2 => cases hl
 rename_i hl'
 exact (h c (Nat.le_of_ble_eq_true hl')).trans e
def lowSl (nx nc K : Nat) : List (Nat × AV) → Bool
 | [] => true
 | (t, v) :: r => match lowV nx nc K v with
  | true => match Nat.ble t 511 with
   | true => lowSl nx nc K r
   | false => false
  | false => false
theorem lowSl_ok {nx nc K : Nat} : ∀ {l : List (Nat × AV)}, lowSl nx nc K l = true → ∀ p, p ∈ l → lowV nx nc K p.2 = true ∧ p.1 < 512
 | [], _, p, hp => by cases hp
 | (t, v) :: r, h, p, hp => by
  unfold lowSl at h
  split at h
  case h_2 => cases h
  rename_i h1
  split at h
  case h_2 => cases h
  rename_i h2
  rcases List.mem_cons.1 hp with rfl | hp
  ·exact ⟨h1, Nat.lt_succ_of_le (Nat.le_of_ble_eq_true h2)⟩
  ·exact lowSl_ok h p hp
theorem putsT_low {nx nc K : Nat} : ∀ (l : List (Nat × AV)) (T : Tm), (∀ t, lowV nx nc K (tget T t) = true) → (∀ p, p ∈ l → lowV nx nc K p.2 = true ∧ p.1 < 512) → ∀ t, lowV nx nc K (tget (putsT l T) t) = true
 | [], T, h, _, t => h t
 | (k, v) :: r, T, h, hl, t => by
  refine putsT_low r _ (fun t => ?_) (fun p hp => hl p (List.mem_cons_of_mem _ hp)) t
  have h1 := hl (k, v) List.mem_cons_self
  show lowV nx nc K ((Tm.put v T k).get t) = true
  rw [Tm.get_put v T k t h1.2]
  split
  ·exact h1.1
  ·exact h t
theorem head_low {H : Head} {nx nc K : Nat} (h : lowSl nx nc K H.keep = true) (t : Nat) : lowV nx nc K (tget H.T t) = true := by
 refine putsT_low H.keep Tm.tp (fun t => ?_) (fun p hp => lowSl_ok h p hp) t
 show lowV _ _ _ (Tm.tp.get t) = true
 rw [Tm.get_tp]
 split <;> rfl
def lowBs (nx nc K : Nat) : Bs → Bool
 | [] => true
 | (n, ab) :: r => match lowB nx nc K ab with
  | true => lowBs nx nc K r
  | false => false
theorem lowBs_ok {nx nc K : Nat} : ∀ {l : Bs}, lowBs nx nc K l = true → ∀ n ab, lk l n = some ab → lowB nx nc K ab = true
 | [], _, n, ab, e => by cases e
 | (m, a) :: r, h, n, ab, e => by
  unfold lowBs at h
  split at h
  case h_2 => cases h
  rename_i h1
  simp only [lk] at e
  cases hr : lk r n with
  | some x =>
   rw [hr] at e
   simp only [Option.some_or, Option.some.injEq] at e
   subst e
   exact lowBs_ok h n _ hr
  | none =>
   rw [hr] at e
   simp only [Option.none_or] at e
   split at e
   ·cases e; exact h1
   ·cases e
def lowH (H : Head) (K : Nat) : Bool := match lowSl H.nx H.nc K H.keep with
 | true => match lowBs H.nx H.nc K H.bs with
  | true => match smallB H.bs with
   | true => match Nat.ble H.n0 H.nx with
    | true => Nat.ble H.c0 H.nc
    | false => false
   | false => false
  | false => false
 | false => false
structure LowH (H : Head) (K : Nat) : Prop where
 keep : lowSl H.nx H.nc K H.keep = true
 bs : lowBs H.nx H.nc K H.bs = true
 small : smallB H.bs = true
 nx : H.n0 ≤ H.nx
 nc : H.c0 ≤ H.nc
theorem lowH_ok {H : Head} {K : Nat} (h : lowH H K = true) : LowH H K := by
 unfold lowH at h
 split at h
 case h_2 => cases h
 rename_i h1
 split at h
 case h_2 => cases h
 rename_i h2
 split at h
 case h_2 => cases h
 rename_i h3
 split at h
 case h_2 => cases h
 rename_i h4
 exact ⟨h1, h2, h3, Nat.le_of_ble_eq_true h4, Nat.le_of_ble_eq_true h⟩
theorem Ds.low {G : Gl} {H : Head} {K nt : Nat} {σ : Sg} {Y Y' : Nat → Value} {w : World} {a : Act} (hl : LowH H K) (ag : ∀ i, i < K → Y' i = Y i) (hG : Nat.ble G.n H.n0 = true) (d : Ds (G.at Y) σ H.st.ms w) (t : Ta σ nt (tget H.T) a) :
  ∃ σ' : Sg, (∀ n, n < H.nx → σ'.bl n = σ.bl n) ∧ (∀ n, n < H.nc → σ'.cp n = σ.cp n) ∧ Ds (G.at Y') σ' H.st.ms w ∧ Ta σ' nt (tget H.T) a ∧ (∀ k, Im σ' H.st.ms k → Im σ H.st.ms k) := by
 have hsy : ∀ i, i < K → Y' i = σ.sy i := fun i hi => by rw [show σ.sy = Y from d.sy]; exact ag i hi
 have hbl : ∀ n, n < H.nx → (σ.through (idR H.nx H.nc K) Y').bl n = σ.bl n := fun n hn => by
  show (if n < H.nx + ([] : List Nat).length then σ.bl ((idR H.nx H.nc K).nm n) else none) = _
  rw [if_pos (by simpa using hn), nm_id (r := idR H.nx H.nc K) rfl]
 have hcp : ∀ n, n < H.nc → (σ.through (idR H.nx H.nc K) Y').cp n = σ.cp n := fun n hn => by
  show (if n < H.nc + ([] : List Nat).length then σ.cp ((idR H.nx H.nc K).dr n) else none) = _
  rw [if_pos (by simpa using hn), dr_id (r := idR H.nx H.nc K) rfl]
 have hgl : ∀ n ab, H.st.ms.g n = some ab → n < H.nx := fun n ab e => d.glt e
 have him : ∀ k, Im (σ.through (idR H.nx H.nc K) Y') H.st.ms k → Im σ H.st.ms k := by
  rintro k ⟨n, ab, p, e1, e2, e3⟩
  rw [hbl n (hgl n ab e1)] at e2
  exact ⟨n, ab, p, e1, e2, e3⟩
 have hg := head_g hl.small
 refine ⟨_, hbl, hcp, ⟨fun n ab e => ?_, fun n m ab ab' p q hnm e1 e2 e3 e4 => ?_, fun n hn => ?_, fun n hn => ?_, fun g hlt => ?_, rfl, fun k hk => ?_⟩, ⟨t.size, fun i => V_low hsy (head_low hl.keep i) (t.val i)⟩, him⟩
 ·have hlow := lowBs_ok hl.bs n ab (by rw [← hg]; exact e)
  rcases d.blk n ab e with ⟨p, hp, ob, ho, hb⟩ | ⟨e1, e2, e3⟩
  ·exact .inl ⟨p, (hbl n (hgl n ab e)).trans hp, ob, ho, BO_low hsy hlow hb⟩
  ·exact .inr ⟨(hbl n (hgl n ab e)).trans e1, e2, NL_low hsy hlow e3⟩
 ·rw [hbl n (hgl n ab e1)] at e3
  rw [hbl m (hgl m ab' e2)] at e4
  exact d.inj n m ab ab' p q hnm e1 e2 e3 e4
 ·have hn' : H.nx ≤ n := hn
  show (if n < H.nx + ([] : List Nat).length then _ else none) = none
  rw [if_neg (by simp; omega)]
 ·have hn' : H.nc ≤ n := hn
  show (if n < H.nc + ([] : List Nat).length then _ else none) = none
  rw [if_neg (by simp; omega)]
 ·have h1 := Nat.le_of_ble_eq_true hG
  have h2 : g < G.n := hlt
  rw [hbl g (by have := hl.nx; omega)]
  exact d.glob g hlt
 ·obtain ⟨h1, h2, h3⟩ := d.old k hk
  exact ⟨h1, h2, fun hi => h3 (him k hi)⟩
theorem Hd.resy {G : Gl} {H : Head} {nt K : Nat} {σ0 : Sg} {w0 w : World} {I0 : Nat → Prop} {Y Y' : Nat → Value} {a : Act} (h : Hd G H nt σ0 w0 I0 Y a w) (hl : lowH H K = true) (ag : ∀ i, i < K → Y i = Y' i) (hG : Nat.ble G.n H.n0 = true) : Hd G H nt σ0 w0 I0 Y' a w := by
 have hl := lowH_ok hl
 obtain ⟨⟨σ, h1, h2, d, t, him⟩, df, chg⟩ := h
 obtain ⟨σ', g1, g2, d', t', him'⟩ := Ds.low hl (fun i hi => (ag i hi).symm) hG d t
 exact ⟨⟨σ', fun n hn => (g1 n (Nat.lt_of_lt_of_le hn hl.nx)).trans (h1 n hn), fun n hn => (g2 n (Nat.lt_of_lt_of_le hn hl.nc)).trans (h2 n hn), d', t', fun k hk => him k (him' k hk)⟩, df, chg⟩
def exitOf : XE → Exit
 | .normal => .normal
 | .exit id => .exit id
 | .ret => .ret
 | .pan _ => .normal
def eqX : XE → XE → Bool
 | .normal, .normal => true
 | .exit a, .exit b => Nat.beq a b
 | .ret, .ret => true
 | _, _ => false
theorem eqX_ok {a b : XE} (h : eqX a b = true) : a = b := by
 cases a <;> cases b <;> simp only [eqX] at h <;> first | rfl | (cases h; done) | (rw [Nat.eq_of_beq_eq_true h])
def noDs : List DA → Bool
 | [] => true
 | _ => false
def chkR (H : Head) (r : Rn) (nils : List Nat) (want : XE) (x : R Out) : Bool := match x with
 | .ok q => match eqX q.1 want with
  | true => match noDs q.2.2.1 with
   | true => chkH H r nils q.2.1 q.2.2.2
   | false => false
  | false => false
 | .no _ => false
def OutsOK (Y Y' : Nat → Value) : Nat → List AV → Prop
 | _, [] => True
 | k, v :: l => vv Y v = some (Y' k) ∧ OutsOK Y Y' (k + 1) l
theorem OutsOK.get {Y Y' : Nat → Value} : ∀ {l : List AV} {k : Nat}, OutsOK Y Y' k l → ∀ i v, l[i]? = some v → vv Y v = some (Y' (k + i))
 | [], k, _, i, v, e => by simp at e
 | u :: l, k, h, 0, v, e => by simp at e; subst e; exact h.1
 | u :: l, k, h, i + 1, v, e => by
  have := h.2.get i v (by simpa using e)
  rwa [show k + 1 + i = k + (i + 1) by omega] at this
theorem fits_of {r : Rn} {σ : Sg} {Y Y' : Nat → Value} (ag : ∀ i, i < r.K → Y i = Y' i) (hv : OutsOK Y Y' r.K r.outs) : Fits r (σ.at' Y) Y' := ⟨fun i hi => (ag i hi).symm, fun i v e => hv.get i v e⟩
theorem head_step {E : Env} {G : Gl} {Y Y' : Nat → Value} (hG : E.G = G.at Y) (hY0 : Y 0 = .agg #[]) (hrd : E.rd = none) (ok : EnvOK E) {lf n nt : Nat} (hnt : Nat.ble nt 512 = true) {lp : LpR} {body : Code} (hlp : LpOK E nt lp body) {H H' : Head} {r : Rn} {nils : List Nat} {want : XE}
  (ck : chkR H' r nils want (execL lp body E (funA E (drwA E) lf n) (drwA E) nt lf H.T [] H.st) = true) (hn0 : H'.n0 = H.n0) (hc0 : H'.c0 = H.c0) (hx : H.n0 ≤ H.nx) (hc : H.c0 ≤ H.nc) (hGn : Nat.ble G.n H.n0 = true)
  (ag : ∀ i, i < r.K → Y i = Y' i) (hv : OutsOK Y Y' r.K r.outs) {σ0 : Sg} {w0 w : World} {I0 : Nat → Prop} {a : Act} (hH : Hd G H nt σ0 w0 I0 Y a w) :
  body.wpIn (Wd none) 0 E.P (fun e a' w' => e = exitOf want ∧ Hd G H' nt σ0 w0 I0 Y' a' w') a w := by
 have hnt' : nt ≤ topTmp := by have := Nat.le_of_ble_eq_true hnt; unfold topTmp; omega
 unfold chkR at ck
 split at ck
 case h_2 => cases ck
 rename_i q hq
 split at ck
 case h_2 => cases ck
 rename_i k1
 split at ck
 case h_2 => cases ck
 rename_i k2
 obtain ⟨⟨σ, h1, h2, d, t, him⟩, df, chg⟩ := hH
 have hds : Ds E.G σ H.st.ms w := by rw [hG]; exact d
 have hcs := funA_sound hrd ok lf n
 have := execL_ok hrd ok hcs (drwA_ok ok hcs) hnt' lf body hlp H.T [] H.st q hq σ a w hds t df
 refine wpIn_mono this fun e a' w' hp => ?_
 obtain ⟨σ', g1, g2, g3, g4⟩ := hp
 have hX := eqX_ok k1
 have hdf : a'.defers = [] := by
  cases hd : q.2.2.1 with
  | nil => rw [hd] at g3; exact g3
  | cons x y => rw [hd] at k2; cases k2
 have hmid : e = exitOf want ∧ Ta σ' nt (tget q.2.1) a' := by
  rw [hX] at g4
  cases want with
  | normal => exact g4
  | exit id => exact g4
  | ret => exact g4
  | pan v =>
   rw [hX] at k1
   cases k1
 refine ⟨hmid.1, ?_⟩
 refine Hd.of (σ := σ') (by rw [← hG]; exact g1) hY0 hmid.2 hdf (fun n hn => ?_) (fun n hn => ?_) (by rw [hn0]; exact hGn) (fun k hk => ?_) ?_ ck (fits_of ag hv)
 ·rw [hn0] at hn
  exact (g2.bl n (show n < H.nx by omega)).trans (h1 n hn)
 ·rw [hc0] at hn
  exact (g2.cp n (show n < H.nc by omega)).trans (h2 n hn)
 ·rcases g2.im k hk with h | h
  ·exact .inl (Nat.le_trans chg.size h)
  ·exact him k h
 ·exact chg.trans g2.chg fun i hi hk => by
   rcases him i hk with h | h
   ·omega
   ·exact h
def lpG (H : Head) (r : Rn) (nils : List Nat) (Ho : Head) (want : XE) : Tm → List DA → St → R Out := fun T ds s => match chkH H r nils T s with
 | true => match noDs ds with
  | true => match Nat.beq s.nx H.n0 with
   | true => match Nat.beq s.nc H.c0 with
    | true => .ok (want, Ho.T, [], Ho.st)
    | false => .no 683
   | false => .no 682
  | false => .no 681
 | false => .no 680
theorem lp_code {E : Env} {G : Gl} {Y0 Yo Yp : Nat → Value} (hG : E.G = G.at Yp) (hY0 : Yp 0 = .agg #[]) {nt : Nat} {body : Code} {H Ho : Head} {r : Rn} {nils : List Nat} {want : XE}
  (hw : match want with | .pan _ => false | _ => true) (hGn : Nat.ble G.n H.n0 = true) (hn0 : Ho.n0 = H.n0) (hc0 : Ho.c0 = H.c0) (hlow : lowH Ho Ho.K' = true)
  (ag : ∀ i, i < r.K → Yp i = Y0 i) (hv : OutsOK Yp Y0 r.K r.outs) (ago : ∀ i, i < Ho.K' → Yo i = Yp i)
  (loop : ∀ σ0 w0 I0 a w, Hd G H nt σ0 w0 I0 Y0 a w → (Code.loop body).wpIn (Wd none) 0 E.P (fun e a' w' => e = exitOf want ∧ Hd G Ho nt σ0 w0 I0 Yo a' w') a w) : CodeN E nt (.loop body) (lpG H r nils Ho want) := by
 intro T ds s q h σ a w hd ht hds
 unfold lpG at h
 split at h
 case h_2 => cases h
 rename_i ck
 split at h
 case h_2 => cases h
 rename_i hnd
 split at h
 case h_2 => cases h
 rename_i h1
 split at h
 case h_2 => cases h
 rename_i h2
 cases h
 have h1 := Nat.eq_of_beq_eq_true h1
 have h2 := Nat.eq_of_beq_eq_true h2
 have hdf : a.defers = [] := by
  cases ds with
  | nil => exact hds
  | cons x y => cases hnd
 have hH : Hd G H nt σ w (Im σ s.ms) Y0 a w := Hd.of (σ := σ) (by rw [← hG]; exact hd) hY0 ht hdf (fun _ _ => rfl) (fun _ _ => rfl) hGn (fun k hk => .inr hk) (Chg.refl _ _) ck (fits_of ag hv)
 refine wpIn_mono (loop σ w (Im σ s.ms) a w hH) fun e a' w' ⟨he, hO⟩ => ?_
 obtain ⟨⟨σ1, f1, f2, d, t, him⟩, df, chg⟩ := hO.resy hlow ago (by rw [hn0]; exact hGn)
 have hl := lowH_ok hlow
 refine ⟨σ1, by rw [hG]; exact d, ⟨fun n hn => f1 n (by rw [hn0]; show n < H.n0; rw [← h1]; exact hn), fun n hn => f2 n (by rw [hc0]; show n < H.c0; rw [← h2]; exact hn), ?_, ?_, ?_, him, chg⟩, df, ?_⟩
 ·rw [hd.sy, hG, d.sy]
 ·have := hl.nx
  show s.nx ≤ Ho.nx
  omega
 ·have := hl.nc
  show s.nc ≤ Ho.nc
  omega
 ·cases want with
  | normal => exact ⟨he, t⟩
  | exit id => exact ⟨he, t⟩
  | ret => exact ⟨he, t⟩
  | pan v => cases hw
def loopsOf : Code → List Code
 | .seq x y => loopsOf x ++ loopsOf y
 | .cond _ x y => loopsOf x ++ loopsOf y
 | .block _ c => loopsOf c
 | .loop c => c :: loopsOf c
 | _ => []
theorem LpOK_of {E : Env} {nt : Nat} {lp : LpR} : ∀ c : Code, (∀ l, l ∈ loopsOf c → ∀ g, lp (fstR l) = some g → CodeN E nt (.loop l) g) → LpOK E nt lp c
 | .seq x y, h => ⟨LpOK_of x fun l hl => h l (List.mem_append.2 (.inl hl)), LpOK_of y fun l hl => h l (List.mem_append.2 (.inr hl))⟩
 | .cond _ x y, h => ⟨LpOK_of x fun l hl => h l (List.mem_append.2 (.inl hl)), LpOK_of y fun l hl => h l (List.mem_append.2 (.inr hl))⟩
 | .block _ c, h => LpOK_of (E := E) c h
 | .loop c, h => ⟨LpOK_of c fun l hl => h l (List.mem_cons_of_mem _ hl), h c List.mem_cons_self⟩
 | .skip, _ => trivial
 | .region _ _ _, _ => trivial
 | .rangeFunc _ _ _ _, _ => trivial
 | .exit _, _ => trivial
 | .scope _, _ => trivial
 | .label _, _ => trivial
 | .goto _, _ => trivial
 | .ret, _ => trivial
 | .refuse _, _ => trivial
theorem loops_in : ∀ (c l m : Code), l ∈ loopsOf c → m ∈ loopsOf l → m ∈ loopsOf c
 | .seq x y, l, m, h, g => by
  rcases List.mem_append.1 h with h | h
  ·exact List.mem_append.2 (.inl (loops_in x l m h g))
  ·exact List.mem_append.2 (.inr (loops_in y l m h g))
 | .cond _ x y, l, m, h, g => by
  rcases List.mem_append.1 h with h | h
  ·exact List.mem_append.2 (.inl (loops_in x l m h g))
  ·exact List.mem_append.2 (.inr (loops_in y l m h g))
 | .block _ c, l, m, h, g => loops_in c l m h g
 | .loop c, l, m, h, g => by
  rcases List.mem_cons.1 h with rfl | h
  ·exact List.mem_cons_of_mem _ g
  ·exact List.mem_cons_of_mem _ (loops_in c l m h g)
 | .skip, l, m, h, g => by cases h
 | .region _ _ _, l, m, h, g => by cases h
 | .rangeFunc _ _ _ _, l, m, h, g => by cases h
 | .exit _, l, m, h, g => by cases h
 | .scope _, l, m, h, g => by cases h
 | .label _, l, m, h, g => by cases h
 | .goto _, l, m, h, g => by cases h
 | .ret, l, m, h, g => by cases h
 | .refuse _, l, m, h, g => by cases h
def firstL (k : Nat) : List Code → Code
 | [] => .skip
 | c :: r => match Nat.beq (fstR c) k with
  | true => c
  | false => firstL k r
theorem firstL_of {l : Code} : ∀ {cs : List Code}, nodupN (cs.map fstR) = true → l ∈ cs → firstL (fstR l) cs = l
 | c :: r, h, hl => by
  simp only [List.map_cons] at h
  unfold nodupN at h
  split at h
  case h_1 => cases h
  rename_i h1
  unfold firstL
  rcases List.mem_cons.1 hl with rfl | hl
  ·rw [Nat.beq_refl]
  ·split
   ·rename_i e
    have := Nat.eq_of_beq_eq_true e
    rw [this, memNB_of (List.mem_map.2 ⟨l, hl, rfl⟩)] at h1
    cases h1
   ·exact firstL_of h hl
def bodyF (P : Program) (f : Nat) : Code := match P.funcs[f]? with
 | some fn => match fn.body with
  | some c => c
  | none => .skip
 | none => .skip
def ntF (P : Program) (f : Nat) : Nat := match P.funcs[f]? with
 | some fn => fn.ntmps
 | none => 0
def loopF (P : Program) (f k : Nat) : Code := firstL k (loopsOf (bodyF P f))
structure LE where
 f : Nat
 k : Nat
 g : Tm → List DA → St → R Out
def orG (a b : Tm → List DA → St → R Out) : Tm → List DA → St → R Out := fun T ds s => match a T ds s with
 | .ok r => .ok r
 | .no _ => b T ds s
def lpA : List LE → Nat → LpR
 | [], _, _ => none
 | e :: r, f, n => match Nat.beq e.f f with
  | true => match Nat.beq e.k n with
   | true => match lpA r f n with
    | some g => some (orG e.g g)
    | none => some e.g
   | false => lpA r f n
  | false => lpA r f n
def LpsOK (E : Env) : List LE → Prop
 | [] => True
 | e :: r => (CodeN E (ntF E.P e.f) (.loop (loopF E.P e.f e.k)) e.g ∧ nodupN ((loopsOf (bodyF E.P e.f)).map fstR) = true) ∧ LpsOK E r
theorem CodeN.or {E : Env} {nt : Nat} {c : Code} {f g : Tm → List DA → St → R Out} (hf : CodeN E nt c f) (hg : CodeN E nt c g) : CodeN E nt c (orG f g) := by
 intro T ds s r h
 unfold orG at h
 split at h
 ·rename_i q hq; cases h; exact hf T ds s _ hq
 ·exact hg T ds s r h
theorem LpsOK.get {E : Env} : ∀ {l : List LE}, LpsOK E l → ∀ f k g, lpA l f k = some g → CodeN E (ntF E.P f) (.loop (loopF E.P f k)) g ∧ nodupN ((loopsOf (bodyF E.P f)).map fstR) = true
 | [], _, f, k, g, h => by cases h
 | e :: r, hl, f, k, g, h => by
  unfold lpA at h
  split at h
  ·rename_i e1
   have := Nat.eq_of_beq_eq_true e1
   subst this
   split at h
   ·rename_i e2
    have := Nat.eq_of_beq_eq_true e2
    subst this
    split at h
    ·rename_i g' hg'
     cases h
     exact ⟨hl.1.1.or (hl.2.get _ _ _ hg').1, hl.1.2⟩
    ·cases h; exact hl.1
   ·exact hl.2.get _ _ _ h
  ·exact hl.2.get _ _ _ h
theorem LpsOK.fn {E : Env} {l : List LE} (h : LpsOK E l) : ∀ f fn c, E.P.funcs[f]? = some fn → fn.body = some c → LpOK E fn.ntmps (lpA l f) c := by
 intro f fn c hf hb
 refine LpOK_of c fun m hm g hg => ?_
 have hc : bodyF E.P f = c := by unfold bodyF; rw [hf]; simp only [hb]
 have ht : ntF E.P f = fn.ntmps := by unfold ntF; rw [hf]
 obtain ⟨h1, hn⟩ := h.get _ _ _ hg
 rw [ht] at h1
 rw [hc] at hn
 rwa [show loopF E.P f (fstR m) = m by unfold loopF; rw [hc]; exact firstL_of hn hm] at h1
theorem firstL_mem {k : Nat} : ∀ {cs : List Code}, firstL k cs = .skip ∨ firstL k cs ∈ cs
 | [] => .inl rfl
 | c :: r => by
  unfold firstL
  split
  ·exact .inr List.mem_cons_self
  ·rcases firstL_mem (k := k) (cs := r) with h | h
   ·exact .inl h
   ·exact .inr (List.mem_cons_of_mem _ h)
theorem LpsOK.body {E : Env} {l : List LE} (h : LpsOK E l) (f k : Nat) : LpOK E (ntF E.P f) (lpA l f) (loopF E.P f k) := by
 refine LpOK_of _ fun m hm g hg => ?_
 obtain ⟨h1, hn⟩ := h.get _ _ _ hg
 have hin : m ∈ loopsOf (bodyF E.P f) := by
  rcases firstL_mem (k := k) (cs := loopsOf (bodyF E.P f)) with h' | h'
  ·unfold loopF at hm; rw [h'] at hm; cases hm
  ·exact loops_in _ _ _ h' hm
 rwa [show loopF E.P f (fstR m) = m from firstL_of hn hin] at h1
theorem agreeL {l m : List Value} {K : Nat} (h : l.take K = m.take K) : ∀ i, i < K → syL l i = syL m i := fun i hi => by
 have h1 : (l.take K)[i]? = l[i]? := by rw [List.getElem?_take, if_pos hi]
 have h2 : (m.take K)[i]? = m[i]? := by rw [List.getElem?_take, if_pos hi]
 unfold syL
 rw [← h1, ← h2, h]
theorem round_step {E : Env} {G : Gl} {Yh Y Y' : Nat → Value} (hG : E.G = G.at Y) (hY0 : Y 0 = .agg #[]) (hrd : E.rd = none) (ok : EnvOK E) {lf n f k : Nat} (hnt : Nat.ble (ntF E.P f) 512 = true) {lps : List LE} (hlp : LpsOK E lps) {H H' : Head} {Kh : Nat} {r : Rn} {nils : List Nat} {want : XE}
  (ck : chkR H' r nils want (execL (lpA lps f) (loopF E.P f k) E (funA E (drwA E) lf n) (drwA E) (ntF E.P f) lf H.T [] H.st) = true) (hl : lowH H Kh = true) (agh : ∀ i, i < Kh → Yh i = Y i) (hn0 : H'.n0 = H.n0) (hc0 : H'.c0 = H.c0) (hGn : Nat.ble G.n H.n0 = true)
  (ag : ∀ i, i < r.K → Y i = Y' i) (hv : OutsOK Y Y' r.K r.outs) {σ0 : Sg} {w0 w : World} {I0 : Nat → Prop} {a : Act} (hH : Hd G H (ntF E.P f) σ0 w0 I0 Yh a w) :
  (loopF E.P f k).wpIn (Wd none) 0 E.P (fun e a' w' => e = exitOf want ∧ Hd G H' (ntF E.P f) σ0 w0 I0 Y' a' w') a w := by
 have hl' := lowH_ok hl
 exact head_step hG hY0 hrd ok hnt (hlp.body f k) ck hn0 hc0 hl'.nx hl'.nc hGn ag hv (hH.resy hl agh hGn)
theorem rounds_go {P : Program} {c : Code} {Q : Exit → Act → World → Prop} {n : Nat} {a : Act} {w : World} {I : Act → World → Prop} (h : c.wpIn (Wd none) 0 P (fun e a' w' => e = .normal ∧ I a' w') a w) (g : ∀ a' w', I a' w' → Code.roundsIn (Wd none) 0 P c Q n a' w') : Code.roundsIn (Wd none) 0 P c Q (n + 1) a w := by
 rw [roundsIn_succ]
 exact wpIn_mono h fun e a' w' ⟨he, hi⟩ => by subst he; exact g a' w' hi
theorem rounds_end {P : Program} {c : Code} {Q : Exit → Act → World → Prop} {n : Nat} {a : Act} {w : World} {x : Exit} {I : Act → World → Prop} (hx : x ≠ .normal) (h : c.wpIn (Wd none) 0 P (fun e a' w' => e = x ∧ I a' w') a w) (g : ∀ a' w', I a' w' → Q x a' w') : Code.roundsIn (Wd none) 0 P c Q (n + 1) a w := by
 rw [roundsIn_succ]
 refine wpIn_mono h fun e a' w' ⟨he, hi⟩ => ?_
 subst he
 cases e <;> first | exact absurd rfl hx | exact g a' w' hi
theorem loop_step {E : Env} {G : Gl} {Y0 Yo Yp : Nat → Value} (hG : E.G = G.at Yp) (hY0 : Yp 0 = .agg #[]) {f k : Nat} {H Ho : Head} {r : Rn} {nils : List Nat} {want : XE}
  (hw : match want with | .pan _ => false | _ => true) (hGn : Nat.ble G.n H.n0 = true) (hn0 : Ho.n0 = H.n0) (hc0 : Ho.c0 = H.c0) (hlow : lowH Ho Ho.K' = true)
  (ag : ∀ i, i < r.K → Yp i = Y0 i) (hv : OutsOK Yp Y0 r.K r.outs) (ago : ∀ i, i < Ho.K' → Yo i = Yp i) {n : Nat}
  (loop : ∀ σ0 w0 I0 a w, Hd G H (ntF E.P f) σ0 w0 I0 Y0 a w → Code.roundsIn (Wd none) 0 E.P (loopF E.P f k) (fun e a' w' => e = exitOf want ∧ Hd G Ho (ntF E.P f) σ0 w0 I0 Yo a' w') n a w) (hone : nodupN ((loopsOf (bodyF E.P f)).map fstR) = true) :
  CodeN E (ntF E.P f) (.loop (loopF E.P f k)) (lpG H r nils Ho want) ∧ nodupN ((loopsOf (bodyF E.P f)).map fstR) = true :=
 ⟨lp_code hG hY0 hw hGn hn0 hc0 hlow ag hv ago fun σ0 w0 I0 a w hh => wpIn_loop_rounds n (loop σ0 w0 I0 a w hh), hone⟩
def Gw (n : Nat) (Y : Nat → Value) (w : World) : Gl := ⟨n, Y, w.heap, fun k => k < w.heap.size⟩
theorem Ds.bareW (n : Nat) (Y : Nat → Value) (w : World) : Ds (Gw n Y w) ⟨fun m => if m < n then some (m, 0) else none, fun _ => none, Y⟩ (⟨Mm.lf, n, 0⟩ : St).ms w := by
 have hg : ∀ m, (⟨Mm.lf, n, 0⟩ : St).ms.g m = none := fun m => Mm.get_lf m
 refine ⟨fun m ab e => ?_, fun m k ab ab' p q _ e => ?_, fun m hm => ?_, fun n _ => rfl, fun g hlt => if_pos hlt, rfl, fun k hk => ⟨hk, rfl, ?_⟩⟩
 ·rw [hg] at e; cases e
 ·rw [hg] at e; cases e
 ·have hm' : n ≤ m := hm
  exact if_neg (by omega)
 ·rintro ⟨m, ab, p, e, _⟩
  rw [hg] at e; cases e
theorem leafL {E : Env} {n0 : Nat} {Y : Nat → Value} {w : World} (hG : E.G = Gw n0 Y w) (ok : EnvOK E) (hrd : E.rd = none) {f lf n : Nat} {vs : List AV} {v : AV} {xs : List Value} {x : Value}
  (hv : vvs Y vs = some xs) (ho : onesL vs xs = true) (h : isR v (funA E (drwA E) lf n (.fn f) vs ⟨Mm.lf, n0, 0⟩) = true) (hx : vt Y v = some x) : Calls E.P f xs.toArray w fun e w' => e = .returned x ∧ Chg (fun _ => False) w w' := by
 have hd := Ds.bareW n0 Y w
 rw [← hG] at hd
 refine (run_ret ok hrd hd (vvs_to (by exact hv) ho) h (by rw [hG]; exact hx)).mono fun e w' ⟨h1, h2⟩ => ⟨h1, h2.mono fun k _ hk => ?_⟩
 obtain ⟨m, ab, p, e1, _⟩ := hk
 rw [show (⟨Mm.lf, n0, 0⟩ : St).ms.g m = none from Mm.get_lf m] at e1
 cases e1
end
end Go.Proofs.YtocabeobfbhajaaGreatDoor.Sx
end
section
namespace Go.Proofs.YtocabeobfbhajaaGreatDoor.Sx
noncomputable section
open Go Go.RowKit
section
variable {G : Gl} {P : Program}
def slT (P : Program) (t : Nat) : Bool := match P.underlying t with
 | some (.slice _) => true
 | _ => false
def slSz (P : Program) (t sz : Nat) : Bool := match P.underlying t with
 | some (.slice e) => match P.info? e with
  | some i => Nat.beq i.size sz
  | none => false
 | _ => false
def stT (P : Program) (t : Nat) : Bool := match P.underlying t with
 | some .string => true
 | _ => false
theorem slSz_ok {t sz : Nat} (h : slSz P t sz = true) : ∃ e i, P.underlying t = some (.slice e) ∧ P.info? e = some i ∧ i.size = sz := by
 unfold slSz at h
 split at h
 case h_2 => cases h
 rename_i e he
 split at h
 case h_2 => cases h
 rename_i i hi
 exact ⟨e, i, he, hi, Nat.eq_of_beq_eq_true h⟩
theorem q_lenStr {l r : AV} {t : Nat} {s : ByteArray} (hb : Nat.ble t 9999 = true) (hl : iv G.sy l = some (.string s)) (hr : iv G.sy r = some (.int .i64 s.size)) (ht : stT P t = true) : QOK G P ⟨6000000000 + t, [l], r⟩ := by
 unfold stT at ht
 split at ht
 case h_2 => cases ht
 rename_i ht'
 have e1 := Nat.le_of_ble_eq_true hb
 refine opOK (ble100 (by omega)) (Nat.ble_eq_true_of_le (by omega)) ?_
 rintro ⟨dst, op, ty, pos, after, guard⟩ xs σ ac hs hk hv w
 simp only at hk hv
 obtain ⟨c, rfl, rfl, hc, hts⟩ : ∃ c, op = .call c ∧ xs = c.args.toList ∧ c.callee = .builtin .len ∧ c.argTypes.toList = [t] := by
  generalize htag : 6000000000 + t = tag at hk
  cases hk
  case un o t x => have := UnOp.ctor_le o; omega
  case len c t' h h1 h2 =>
   have : t' = t := by omega
   subst this
   exact ⟨c, rfl, rfl, h, h2⟩
  all_goals omega
 obtain ⟨callee, args, ats⟩ := c
 simp only at hc hts hv
 subst hc
 obtain ⟨x, hx⟩ : ∃ x, args.toList = [x] := by
  cases hx : args.toList with
  | nil => rw [hx] at hv; simp [Vs] at hv
  | cons x r =>
   cases r with
   | nil => exact ⟨x, rfl⟩
   | cons y r => rw [hx] at hv; simp [Vs] at hv
 rw [hx] at hv
 simp only [Vs, List.map_cons, List.map_nil] at hv
 obtain ⟨u, l', hu, hv1, rfl⟩ := hv
 cases hu
 have := iv_of hv1 (by rw [hs]; exact hl)
 refine ⟨.int .i64 s.size, ?_, iv_to (by rw [hs]; exact hr) rfl⟩
 unfold execOp
 have g1 : (Builtin.len_ #[t] ty #[Value.string s]).run P w = .ok (.int .i64 s.size) w := by simp [Builtin.len_, run_underlying ht', goInt]
 simp only [resolve, Sem.run_bind, Sem.run_pure, Result.andThen_ok, invoke]
 rw [arr1 hx, arr1 hts]
 exact run_v (by simpa [this] using g1)
theorem q_lenL {o ln : AV} {t b sz x : Nat} {n : Int} (hb : Nat.ble t 9999 = true) (hl : iv G.sy ln = some (.int .i64 n)) (ht : slT P t = true) : QOK G P ⟨6000000000 + t, [.sls b sz o ln x], ln⟩ := by
 unfold slT at ht
 split at ht
 case h_2 => cases ht
 rename_i e ht'
 have e1 := Nat.le_of_ble_eq_true hb
 refine opOK (ble100 (by omega)) (Nat.ble_eq_true_of_le (by omega)) ?_
 rintro ⟨dst, op, ty, pos, after, guard⟩ xs σ ac hs hk hv w
 simp only at hk hv
 obtain ⟨c, rfl, rfl, hc, hts⟩ : ∃ c, op = .call c ∧ xs = c.args.toList ∧ c.callee = .builtin .len ∧ c.argTypes.toList = [t] := by
  generalize htag : 6000000000 + t = tag at hk
  cases hk
  case un o t x => have := UnOp.ctor_le o; omega
  case len c t' h h1 h2 =>
   have : t' = t := by omega
   subst this
   exact ⟨c, rfl, rfl, h, h2⟩
  all_goals omega
 obtain ⟨callee, args, ats⟩ := c
 simp only at hc hts hv
 subst hc
 obtain ⟨x, hx⟩ : ∃ x, args.toList = [x] := by
  cases hx : args.toList with
  | nil => rw [hx] at hv; simp [Vs] at hv
  | cons x r =>
   cases r with
   | nil => exact ⟨x, rfl⟩
   | cons y r => rw [hx] at hv; simp [Vs] at hv
 rw [hx] at hv
 simp only [Vs, List.map_cons, List.map_nil] at hv
 obtain ⟨u, l', hu, hv1, rfl⟩ := hv
 cases hu
 simp only [V] at hv1
 obtain ⟨oz, m, h1, h2, hv1⟩ := hv1
 have hnm : (m : Int) = n := by
  have h3 : nz G.sy ln = some n := by
   cases ln <;> simp only [iv, Option.some.injEq, reduceCtorEq] at hl
   case int k z => cases hl; rfl
   case sym i => simp only [nz, hl]
  rw [hs, h3] at h2
  injection h2 with h2
  exact h2.symm
 subst hnm
 refine ⟨.int .i64 m, ?_, iv_to (by rw [hs]; exact hl) rfl⟩
 unfold execOp
 have g1 : ∀ (p : Option Addr) (κ : Nat), (Builtin.len_ #[t] ty #[Value.slice p m κ]).run P w = .ok (.int .i64 m) w := fun p κ => by simp [Builtin.len_, run_underlying ht', goInt]
 simp only [resolve, Sem.run_bind, Sem.run_pure, Result.andThen_ok, invoke]
 rw [arr1 hx, arr1 hts]
 rcases hv1 with ⟨h0, aa, e⟩ | ⟨p, κ, _, e, _⟩
 ·subst h0
  exact run_v (by simpa [e] using g1 aa 0)
 ·exact run_v (by simpa [e] using g1 (some ⟨p.1, p.2 + oz * sz, none⟩) κ)
theorem q_idxL {o ln i j : AV} {t b sz x : Nat} {k : IntKind} {m n oz : Int} (hb : Nat.ble t 9999 = true) (ho : nz G.sy o = some oz) (hn : nz G.sy ln = some n) (h2 : iv G.sy i = some (.int k m)) (hm : 0 ≤ m ∧ m < n) (hj : nz G.sy j = some (oz + m)) (ht : slSz P t sz = true) : QOK G P ⟨2000000000 + t, [.sls b sz o ln x, i], .pls b sz j 0⟩ := by
 obtain ⟨e, inf, he, hi, hsz⟩ := slSz_ok ht
 have e1 := Nat.le_of_ble_eq_true hb
 refine opOK (ble100 (by omega)) (Nat.ble_eq_true_of_le (by omega)) ?_
 rintro ⟨dst, op, ty, pos, after, guard⟩ xs σ ac hs hk hv w
 simp only at hk hv
 obtain ⟨z, y, rfl, rfl⟩ : ∃ z y, op = .indexAddr t z y ∧ xs = [z, y] := by
  generalize htag : 2000000000 + t = tag at hk
  cases hk
  case un o t x => have := UnOp.ctor_le o; omega
  case indexAddr t' x y g1 =>
   have : t' = t := by omega
   subst this
   exact ⟨_, _, rfl, rfl⟩
  all_goals omega
 simp only [Vs, List.map_cons, List.map_nil] at hv
 obtain ⟨u, l, hu, hv1, u', l', hu', hv2, rfl⟩ := hv
 cases hu
 cases hu'
 simp only [V] at hv1
 obtain ⟨oz', n', h3, h4, hv1⟩ := hv1
 rw [hs, ho] at h3
 rw [hs, hn] at h4
 have h3 : oz = (oz' : Int) := by injection h3
 have h4 : n = (n' : Int) := by injection h4
 subst h3; subst h4
 rcases hv1 with ⟨h0, aa, ea⟩ | ⟨p, κ, hp, ea, _⟩
 ·omega
 have g2 := iv_of hv2 (by rw [hs]; exact h2)
 have hs' : szA P e = .ok inf.size := by unfold szA; rw [hi]
 have key : (Instr.indexAt t (ac.eval z) (ac.eval y)).run P w = .ok (.pointer (some ⟨p.1, p.2 + oz' * sz + m.toNat * sz, none⟩)) w := by
  rw [ea, g2]
  subst hsz
  simp only [Instr.indexAt, asIntOf, Sem.run_bind, Sem.run_pure, Result.andThen_ok, run_underlying he, hm, and_self, if_true, szA_ok hs', addr_add]
 refine ⟨_, run_v key, ?_⟩
 simp only [V]
 refine ⟨oz' + m.toNat, by rw [hs, hj]; congr 1; omega, p, hp, ?_⟩
 rw [Nat.add_mul, Nat.add_zero, Nat.add_assoc]
inductive SF : Option AV → Option AV → Option AV → Nat → List AV → Prop
 | lo (l : AV) : SF (some l) none none 4100000000 [l]
 | hi (h : AV) : SF none (some h) none 4200000000 [h]
 | lohi (l h : AV) : SF (some l) (some h) none 4300000000 [l, h]
 | himx (h m : AV) : SF none (some h) (some m) 4400000000 [h, m]
 | lohimx (l h m : AV) : SF (some l) (some h) (some m) 4500000000 [l, h, m]
def VOp (σ : Sg) (ρ : Operand → Value) : Option AV → Option Operand → Prop
 | none, none => True
 | some a, some x => V σ a (ρ x)
 | _, _ => False
theorem SF.op {lo hi mx : Option AV} {tag t : Nat} {ags : List AV} (h : SF lo hi mx tag ags) (ht : t ≤ 9999) {op : Op} {xs : List Operand} (hk : QK op (tag + t) xs) {σ : Sg} {ρ : Operand → Value} {x : AV} (hv : Vs σ (x :: ags) (xs.map ρ)) :
  ∃ xo loO hiO mxO, op = .slice t xo loO hiO mxO ∧ V σ x (ρ xo) ∧ VOp σ ρ lo loO ∧ VOp σ ρ hi hiO ∧ VOp σ ρ mx mxO := by
 generalize htag : tag + t = g at hk
 cases h <;> cases hk
 all_goals first
  | (exfalso; first | omega | (rename_i o _ _; have := UnOp.ctor_le o; omega))
  | skip
 all_goals
  simp only [Vs, List.map_cons, List.map_nil] at hv
 ·rename_i l t' x' l' h1
  obtain ⟨u, l1, hu, hv1, u2, l2, hu2, hv2, rfl⟩ := hv
  cases hu; cases hu2
  have : t' = t := by omega
  subst this
  exact ⟨_, _, _, _, rfl, hv1, hv2, trivial, trivial⟩
 ·rename_i l t' x' l' h1
  obtain ⟨u, l1, hu, hv1, u2, l2, hu2, hv2, rfl⟩ := hv
  cases hu; cases hu2
  have : t' = t := by omega
  subst this
  exact ⟨_, _, _, _, rfl, hv1, trivial, hv2, trivial⟩
 ·rename_i l h t' x' l' h' h1
  obtain ⟨u, l1, hu, hv1, u2, l2, hu2, hv2, u3, l3, hu3, hv3, rfl⟩ := hv
  cases hu; cases hu2; cases hu3
  have : t' = t := by omega
  subst this
  exact ⟨_, _, _, _, rfl, hv1, hv2, hv3, trivial⟩
 ·rename_i l h t' x' l' h' h1
  obtain ⟨u, l1, hu, hv1, u2, l2, hu2, hv2, u3, l3, hu3, hv3, rfl⟩ := hv
  cases hu; cases hu2; cases hu3
  have : t' = t := by omega
  subst this
  exact ⟨_, _, _, _, rfl, hv1, trivial, hv2, hv3⟩
 ·rename_i l h m t' x' l' h' m' h1
  obtain ⟨u, l1, hu, hv1, u2, l2, hu2, hv2, u3, l3, hu3, hv3, u4, l4, hu4, hv4, rfl⟩ := hv
  cases hu; cases hu2; cases hu3; cases hu4
  have : t' = t := by omega
  subst this
  exact ⟨_, _, _, _, rfl, hv1, hv2, hv3, hv4⟩
end
end
end Go.Proofs.YtocabeobfbhajaaGreatDoor.Sx
end
section
namespace Go.Proofs.YtocabeobfbhajaaGreatDoor.Sx
noncomputable section
open Go Go.RowKit
structure Codec (α : Type) where
 f : α → List Value
 sz : Nat
 len : ∀ x, (f x).length = sz
 one : ∀ x, ∀ v ∈ f x, v.oneCell' = true
def strC : Codec ByteArray := ⟨fun n => [.string n], 1, fun _ => rfl, fun x v h => by simp at h; rw [h]; rfl⟩
def at_ {α : Type} [Inhabited α] (l : List α) (i : Int) : α := l.getD i.toNat default
theorem at_eq {α : Type} [Inhabited α] {l : List α} {i : Int} (h0 : 0 ≤ i) (h : i < l.length) : l[i.toNat]? = some (at_ l i) := by
 unfold at_
 rw [List.getD_eq_getElem?_getD, List.getElem?_eq_getElem (by omega)]
 rfl
def Codec.flat {α : Type} (C : Codec α) (l : List α) : Value := .agg (l.flatMap C.f).toArray
section
variable {α : Type} (C : Codec α)
theorem flat_length (l : List α) : (l.flatMap C.f).length = l.length * C.sz := by
 induction l with
 | nil => simp
 | cons x l ih => simp only [List.flatMap_cons, List.length_append, C.len, ih, List.length_cons, Nat.add_mul, Nat.one_mul]; omega
theorem flat_one (l : List α) : ∀ v ∈ l.flatMap C.f, v.oneCell' = true := by
 intro v hv
 obtain ⟨x, _, h⟩ := List.mem_flatMap.1 hv
 exact C.one x v h
theorem flat_get {l : List α} {i j : Nat} {x : α} (h : l[i]? = some x) (hj : j < C.sz) : (l.flatMap C.f)[i * C.sz + j]? = (C.f x)[j]? := by
 induction l generalizing i with
 | nil => simp at h
 | cons y l ih =>
  cases i with
  | zero =>
   simp at h
   subst h
   rw [List.flatMap_cons, List.getElem?_append_left (by rw [C.len]; omega)]
   simp
  | succ i =>
   rw [List.flatMap_cons, List.getElem?_append_right (by rw [C.len, Nat.add_mul]; omega), C.len, show (i + 1) * C.sz + j - C.sz = i * C.sz + j by rw [Nat.add_mul]; omega]
   exact ih (by simpa using h)
theorem flat_sub (l : List α) (o n : Nat) : subL (l.flatMap C.f) (o * C.sz) (n * C.sz) = ((l.drop o).take n).flatMap C.f := by
 unfold subL
 induction l generalizing o n with
 | nil => simp
 | cons x l ih =>
  cases o with
  | zero =>
   simp only [Nat.zero_mul, List.drop_zero]
   cases n with
   | zero => simp
   | succ n =>
    have := ih 0 n
    simp only [Nat.zero_mul, List.drop_zero] at this
    simp only [List.take_succ_cons, List.flatMap_cons]
    rw [List.take_append_of_le_length' (by rw [C.len, Nat.add_mul]; omega), C.len, show (n + 1) * C.sz - C.sz = n * C.sz by rw [Nat.add_mul]; omega, this]
  | succ o =>
   simp only [List.drop_succ_cons, List.flatMap_cons]
   rw [List.drop_append_of_le_length' (by rw [C.len, Nat.add_mul]; omega), C.len, show (o + 1) * C.sz - C.sz = o * C.sz by rw [Nat.add_mul]; omega]
   exact ih o n
end
def LstAt {α : Type} (C : Codec α) (w : World) (a : Option Addr) (b o : Nat) (l : List α) : Prop := l = [] ∨ (a = some ⟨b, o, none⟩ ∧ b < w.heap.size ∧ ∀ i x, l[i]? = some x → cellsH w.heap b (o + i * C.sz) (C.f x))
theorem LstAt.lt {α : Type} {C : Codec α} {w : World} {a : Option Addr} {b o : Nat} {l : List α} (h : LstAt C w a b o l) {i : Int} (h0 : 0 ≤ i) (hi : i < l.length) : b < w.heap.size := by
 rcases h with rfl | ⟨_, h, _⟩
 ·simp at hi; omega
 ·exact h
theorem LstAt.cells {α : Type} [Inhabited α] {C : Codec α} {w : World} {a : Option Addr} {b o : Nat} {l : List α} (h : LstAt C w a b o l) {i : Int} (h0 : 0 ≤ i) (hi : i < l.length) : cellsH w.heap b (o + i.toNat * C.sz) (C.f (at_ l i)) := by
 rcases h with rfl | ⟨_, _, h⟩
 ·simp at hi; omega
 ·exact h _ _ (at_eq h0 hi)
theorem LstAt.chg {α : Type} {C : Codec α} {w w' : World} {a : Option Addr} {b o : Nat} {l : List α} (h : LstAt C w a b o l) (hc : Chg (fun _ => False) w w') : LstAt C w' a b o l := by
 rcases h with h | ⟨h1, h2, h3⟩
 ·exact .inl h
 ·refine .inr ⟨h1, Nat.lt_of_lt_of_le h2 hc.size, fun i x hi => ?_⟩
  obtain ⟨c, t, fr, e1, e2⟩ := h3 i x hi
  exact ⟨c, t, fr, (hc.block b h2 id).trans e1, e2⟩
theorem LstAt.sub {α : Type} {C : Codec α} {w : World} {a : Option Addr} {b o : Nat} {l : List α} (h : LstAt C w a b o l) (k : Nat) : LstAt C w a b o (l.take k) := by
 rcases h with rfl | ⟨h1, h2, h3⟩
 ·exact .inl (by simp)
 ·refine .inr ⟨h1, h2, fun i x hi => h3 i x ?_⟩
  rw [List.getElem?_take] at hi
  split at hi
  ·exact hi
  ·cases hi
theorem LstAt.old {α : Type} {C : Codec α} {n : Nat} {Y : Nat → Value} {w w' : World} {a : Option Addr} {b o : Nat} {l : List α} (h : LstAt C w a b o l) (hw : OldAt (Gw n Y w) w') : LstAt C w' a b o l := by
 rcases h with h | ⟨h1, h2, h3⟩
 ·exact .inl h
 ·obtain ⟨g1, g2⟩ := hw b h2
  refine .inr ⟨h1, g1, fun i x hi => ?_⟩
  obtain ⟨c, t, fr, e1, e2⟩ := h3 i x hi
  exact ⟨c, t, fr, g2.trans e1, e2⟩
section
variable {P : Program} {α : Type} [Inhabited α] {C : Codec α}
section
variable {n0 : Nat} {Y : Nat → Value} {w : World} {a : Option Addr} {b o : Nat} {l : List α}
end
section
variable {G : Gl}
theorem q_rowL {X : List α} {t b c sz : Nat} {j : AV} {rs : List AV} {i : Int} (hz : C.sz = sz) (hb : Nat.ble t 9999 = true) (hc : G.sy c = C.flat X) (hj : nz G.sy j = some i) (hi : 0 ≤ i ∧ i < X.length) (hv : ivs G.sy rs = some (C.f (at_ X i))) (hr : rowT P t sz = true) : QOK G P ⟨8000000000 + t, [.pls b sz j 0, .sym c], .agg rs⟩ := by
 subst hz
 refine .inr (.inr (.inr (.inr ⟨Nat.le_add_right _ _, .lrow t b C.sz j 0 c rs (C.f (at_ X i)) _ i.toNat (Nat.le_of_ble_eq_true hb) (by rw [hj]; congr 1; omega) hc (by rw [C.len]; exact hr) (fun m v hm => ?_) hv⟩)))
 have hm' : m < C.sz := by have := (List.getElem?_eq_some_iff.1 hm).1; rwa [C.len] at this
 rw [List.getElem?_toArray, Nat.add_zero, flat_get C (at_eq hi.1 hi.2) hm']
 exact hm
theorem q_oneL {X : List α} {t b c o sz : Nat} {j r : AV} {i : Int} {v : Value} (hz : C.sz = sz) (hb : Nat.ble t 9999 = true) (hc : G.sy c = C.flat X) (hj : nz G.sy j = some i) (hi : 0 ≤ i ∧ i < X.length) (ho : (C.f (at_ X i))[o]? = some v) (hv : iv G.sy r = some v) (hr : oneT P t = true) : QOK G P ⟨8000000000 + t, [.pls b sz j o, .sym c], r⟩ := by
 subst hz
 refine .inr (.inr (.inr (.inr ⟨Nat.le_add_right _ _, .lone t b C.sz j o c r v _ i.toNat (Nat.le_of_ble_eq_true hb) (by rw [hj]; congr 1; omega) hc hr ?_ hv⟩)))
 have hm' : o < C.sz := by have := (List.getElem?_eq_some_iff.1 ho).1; rwa [C.len] at this
 rw [List.getElem?_toArray, flat_get C (at_eq hi.1 hi.2) hm']
 exact ho
theorem src_all {X : List α} {c : Nat} {o ln : AV} (hc : G.sy c = C.flat X) (ho : nz G.sy o = some 0) (hn : nz G.sy ln = some (X.length : Int)) : Src G C.sz [.sym c, o, ln] X.length (X.flatMap C.f) := by
 have := Src.sub (G := G) (sz := C.sz) c o ln _ 0 X.length hc ho hn (by rw [List.size_toArray, flat_length, Nat.zero_add]; exact Nat.le_refl _)
 have e : subL ((X.flatMap C.f).toArray).toList (0 * C.sz) (X.length * C.sz) = X.flatMap C.f := by
  rw [flat_sub C X 0 X.length]; simp
 rw [e] at this
 exact this
theorem q_app1 {X : List α} {e : α} {sz c c' : Nat} {o ln ln' : AV} {rs : List AV} (hz : C.sz = sz) (hb : Nat.ble sz 9999 = true) (hc : G.sy c = C.flat X) (ho : nz G.sy o = some 0) (hn : nz G.sy ln = some (X.length : Int)) (hv : ivs G.sy rs = some (C.f e)) (hc' : G.sy c' = C.flat (X ++ [e])) (hl : nz G.sy ln' = some ((X.length : Int) + 1)) (hm : (X.length : Int) + 1 ≤ 1048576) :
  QOK G P ⟨8000000000 + (200000000 + sz), [.tup [.sym c, o, ln], .tup [.agg rs]], .tup [.sym c', ln']⟩ := by
 subst hz
 refine .inr (.inr (.inr (.inr ⟨Nat.le_add_right _ _, ?_⟩)))
 have := MOK.lapp (G := G) (P := P) C.sz [.sym c, o, ln] [.agg rs] X.length 1 _ _ c' ln' (Nat.le_of_ble_eq_true hb) (src_all hc ho hn) (fun c1 o1 ln1 l1 oz he h1 h2 => ?_) (.one rs (C.f e) 1 hv (by rw [C.len, Nat.one_mul])) (by rw [hc', Codec.flat]; simp) (by rw [hl]; rfl) (by omega)
 ·rw [show (8200000000 : Nat) + C.sz = 8000000000 + (200000000 + C.sz) by omega] at this
  exact this
 ·cases he
  rw [hc] at h1
  rw [ho] at h2
  have h2 : (oz : Int) = 0 := by injection h2 with h2; omega
  have : oz = 0 := by omega
  subst this
  cases h1
  rw [List.size_toArray, flat_length, Nat.zero_add]
end
end
end
end Go.Proofs.YtocabeobfbhajaaGreatDoor.Sx
end
section
namespace Go.Proofs.YtocabeobfbhajaaGreatDoor.Sx
noncomputable section
open Go Go.RowKit
def keyS (s : St) : List AV → List AV
 | [] => []
 | v :: r => match v with
  | .sls b _ _ _ _ => match s.mem.get b with
   | some (.lst c _ _) => .sym c :: keyS s r
   | _ => .top :: keyS s r
  | _ => .top :: keyS s r
theorem keyS_length (s : St) : ∀ l, (keyS s l).length = l.length
 | [] => rfl
 | v :: r => by
  unfold keyS
  split
  ·split <;> simp [keyS_length s r]
  ·simp [keyS_length s r]
def keyC (s : St) : List AV → List AV
 | [] => []
 | v :: r => match v with
  | .sls b _ _ _ _ => match s.mem.get b with
   | some (.lst c _ _) => .sym c :: keyC s r
   | _ => .top :: keyC s r
  | .ptr b _ => match s.mem.get b with
   | some (.cells cs _ _) => .agg cs :: (keyS s cs ++ keyC s r)
   | _ => .top :: keyC s r
  | _ => keyC s r
def sumT (l : List QE) (f : Nat) (vs : List AV) (s : St) : Option (R (EE × St)) := match look l f [.tup vs, .tup (keyC s vs)] with
 | .ok r => some (.ok (.ret r, s))
 | .no _ => none
def COK (G : Gl) (P : Program) (e : QE) : Prop := ∃ vs cs, e.vs = [.tup vs, .tup cs] ∧ ∀ σ s w xs, Ds G σ s.ms w → Vs σ vs xs → keyC s vs = cs → Calls P e.tag xs.toArray w fun ec w' => (∃ z, ec = .returned z ∧ V σ e.r z) ∧ Chg (fun _ => False) w w'
def CsOK (G : Gl) (P : Program) : List QE → Prop
 | [] => True
 | e :: r => COK G P e ∧ CsOK G P r
theorem CsOK.mem {G : Gl} {P : Program} : ∀ {l : List QE}, CsOK G P l → ∀ e ∈ l, COK G P e
 | e :: r, h, x, hx => by
  rcases List.mem_cons.1 hx with rfl | hx
  ·exact h.1
  ·exact h.2.mem x hx
theorem CsOK.sum {G : Gl} {P : Program} {l : List QE} (h : CsOK G P l) : ∀ f vs s e s', sumT l f vs s = some (.ok (e, s')) → ∀ σ w xs, Ds G σ s.ms w → Vs σ vs xs → Calls P f xs.toArray w fun ec w' => ∃ σ', EV σ' e ec ∧ Ds G σ' s'.ms w' ∧ Ex σ s.ms w σ' s'.ms w' := by
 intro f vs s e s' hs σ w xs hd hv
 unfold sumT at hs
 split at hs
 case h_2 => cases hs
 rename_i r hr
 cases hs
 obtain ⟨vs', cs, e1, e2⟩ := h.mem _ (look_ok hr)
 simp only [List.cons.injEq, AV.tup.injEq, and_true] at e1
 obtain ⟨rfl, e1⟩ := e1
 refine (e2 σ s w xs hd hv e1).mono fun ec w' ⟨⟨z, h1, h2⟩, h3⟩ => ?_
 obtain ⟨d2, x2⟩ := hd.quiet h3
 exact ⟨σ, ⟨z, h2, h1⟩, d2, x2⟩
inductive CellsL (G : Gl) {α : Type} (C : Codec α) : List AV → List AV → List (List α) → Prop
 | nil : CellsL G C [] [] []
 | cons (b sz : Nat) (o ln : AV) (x c oz : Nat) (X Z : List α) (cells ks : List AV) (Zs : List (List α)) (hz : C.sz = sz) (hc : G.sy c = C.flat X) (ho : nz G.sy o = some (oz : Int)) (hn : nz G.sy ln = some (Z.length : Int)) (hZ : Z = (X.drop oz).take Z.length) (ht : CellsL G C cells ks Zs) :
   CellsL G C (.sls b sz o ln x :: cells) (.sym c :: ks) (Z :: Zs)
def BkL {α : Type} (C : Codec α) (w : World) (B O : Nat) (Zs : List (List α)) : Prop := B < w.heap.size ∧ ∀ (j : Nat) Z, Zs[j]? = some Z → ∃ a bb oo κ, cellsH w.heap B (O + j) [.slice a Z.length κ] ∧ Z.length ≤ κ ∧ LstAt C w a bb oo Z
inductive SpecL (G : Gl) : List AV → List AV → (World → List Value → Prop) → Prop
 | nil : SpecL G [] [] (fun _ xs => xs = [])
 | val (v : AV) (x : Value) (vs cs : List AV) (Q : World → List Value → Prop) (h : vv G.sy v = some x) (ht : SpecL G vs cs Q) : SpecL G (v :: vs) cs (fun w xs => ∃ l, xs = x :: l ∧ Q w l)
 | lst (α : Type) (C : Codec α) (X Z : List α) (b sz : Nat) (o ln : AV) (x c oz : Nat) (vs cs : List AV) (Q : World → List Value → Prop) (hz : C.sz = sz) (hc : G.sy c = C.flat X) (ho : nz G.sy o = some (oz : Int)) (hn : nz G.sy ln = some (Z.length : Int)) (hZ : Z = (X.drop oz).take Z.length) (ht : SpecL G vs cs Q) :
   SpecL G (.sls b sz o ln x :: vs) (.sym c :: cs) (fun w xs => ∃ a bb oo κ l, xs = .slice a Z.length κ :: l ∧ Z.length ≤ κ ∧ LstAt C w a bb oo Z ∧ Q w l)
 | bk (α : Type) (C : Codec α) (b : Nat) (cells ks : List AV) (Zs : List (List α)) (vs cs : List AV) (Q : World → List Value → Prop) (hC : CellsL G C cells ks Zs) (ht : SpecL G vs cs Q) :
   SpecL G (.ptr b 0 :: vs) (.agg cells :: (ks ++ cs)) (fun w xs => ∃ B O l, xs = .pointer (some ⟨B, O, none⟩) :: l ∧ BkL C w B O Zs ∧ Q w l)
theorem sls_at {G : Gl} {σ : Sg} {s : St} {w : World} (d : Ds G σ s.ms w) {α : Type} {C : Codec α} {X Z : List α} {b sz sz' x' : Nat} {o ln : AV} {x c oz : Nat} {y : Value} (h1 : V σ (.sls b sz o ln x) y) (hg : s.mem.get b = some (.lst c sz' x')) (hz : C.sz = sz) (hc : G.sy c = C.flat X) (ho : nz G.sy o = some (oz : Int)) (hn : nz G.sy ln = some (Z.length : Int)) (hZ : Z = (X.drop oz).take Z.length) :
  ∃ a bb oo κ, y = .slice a Z.length κ ∧ Z.length ≤ κ ∧ LstAt C w a bb oo Z := by
 simp only [V] at h1
 obtain ⟨oz', n, e1, e2, h1⟩ := h1
 rw [d.sy, ho] at e1
 rw [d.sy, hn] at e2
 have t1 : oz = oz' := by injection e1 with e1; omega
 have t2 : Z.length = n := by injection e2 with e2; omega
 subst t1
 rcases h1 with ⟨h0, aa, e⟩ | ⟨p, κ, hp, e, hK⟩
 ·rw [h0] at t2
  have := List.eq_nil_of_length_eq_zero t2
  subst this
  exact ⟨aa, 0, 0, 0, by rw [e]; rfl, Nat.le_refl _, .inl rfl⟩
 ·subst t2
  obtain ⟨ob, hob, cl, ty, fr, rfl, hfr, l', yy, k1, k2, k3, k4, k5⟩ := d.blkP hg hp
  rw [d.sy, hc] at k1
  cases k1
  have hκ : Z.length ≤ κ := by rcases hK with ⟨_, e⟩ | ⟨_, e⟩ | ⟨_, _, _, _, e⟩ <;> omega
  refine ⟨_, p.1, p.2 + oz * sz, κ, by rw [e], hκ, .inr ⟨rfl, lt_of_get hob, fun i x hx => ?_⟩⟩
  refine ⟨cl, ty, fr, hob, fun j v hv => ?_⟩
  have hj : j < C.sz := by have := (List.getElem?_eq_some_iff.1 hv).1; rwa [C.len] at this
  have hx' : X[oz + i]? = some x := by
   rw [hZ, List.getElem?_take] at hx
   split at hx
   ·rw [List.getElem?_drop] at hx; exact hx
   ·cases hx
  have := k5 ((oz + i) * C.sz + j) v (by rw [List.getElem?_toArray, flat_get C hx' hj]; exact hv)
  subst hz
  rw [show p.2 + oz * C.sz + i * C.sz + j = p.2 + ((oz + i) * C.sz + j) by rw [Nat.add_mul]; omega]
  exact this
theorem CellsL.len {G : Gl} {α : Type} {C : Codec α} {cells ks : List AV} {Zs : List (List α)} (h : CellsL G C cells ks Zs) : cells.length = ks.length := by
 induction h with
 | nil => rfl
 | cons _ _ _ _ _ _ _ _ _ _ _ _ _ _ _ _ _ _ ih => rw [List.length_cons, List.length_cons, ih]
theorem CellsL.get {G : Gl} {σ : Sg} {s : St} {w : World} (d : Ds G σ s.ms w) {α : Type} {C : Codec α} {cells ks : List AV} {Zs : List (List α)} (h : CellsL G C cells ks Zs) : ∀ {l : List Value}, Cs σ cells l → keyS s cells = ks → l.length = Zs.length ∧ ∀ (j : Nat) Z, Zs[j]? = some Z → ∃ a bb oo κ, l[j]? = some (.slice a Z.length κ) ∧ Z.length ≤ κ ∧ LstAt C w a bb oo Z := by
 induction h with
 | nil => intro l hl _; simp only [Cs] at hl; subst hl; exact ⟨rfl, fun j Z hj => by simp at hj⟩
 | cons b sz o ln x c oz X Z cells ks Zs hz hc ho hn hZ ht ih =>
  intro l hl hk
  rw [Cs_cons] at hl
  rcases hl with ⟨_, _, _, h, _⟩ | ⟨_, _, h, _⟩ | ⟨y, l', rfl, h1, h2⟩
  ·cases h
  ·cases h
  unfold keyS at hk
  dsimp only at hk
  split at hk
  case h_2 => simp at hk
  rename_i c' sz' x' hg
  simp only [List.cons.injEq, AV.sym.injEq] at hk
  obtain ⟨rfl, hk⟩ := hk
  obtain ⟨g1, g2⟩ := ih h2 hk
  refine ⟨by simp [g1], fun j Z' hj => ?_⟩
  cases j with
  | zero =>
   simp at hj; subst hj
   obtain ⟨a, bb, oo, κ, e1, e2, e3⟩ := sls_at d h1 hg hz hc ho hn hZ
   exact ⟨a, bb, oo, κ, by simp [e1], e2, e3⟩
  | succ j => exact g2 j Z' (by simpa using hj)
theorem keyC_val {s : St} {sy : Nat → Value} {v : AV} {x : Value} (h : vv sy v = some x) (r : List AV) : keyC s (v :: r) = keyC s r := by
 cases v <;> first | rfl | simp [vv, iv] at h
theorem SpecL.get {G : Gl} {vs cs : List AV} {Q : World → List Value → Prop} (h : SpecL G vs cs Q) : ∀ {σ : Sg} {s : St} {w : World} {xs : List Value}, Ds G σ s.ms w → Vs σ vs xs → keyC s vs = cs → Q w xs := by
 induction h with
 | nil => intro σ s w xs d hv _; simpa [Vs] using hv
 | val v x vs cs Q h ht ih =>
  intro σ s w xs d hv hk
  rw [keyC_val h] at hk
  simp only [Vs] at hv
  obtain ⟨y, l, rfl, h1, h2⟩ := hv
  exact ⟨l, by rw [vv_of h1 (by rw [d.sy]; exact h)], ih d h2 hk⟩
 | lst α C X Z b sz o ln x c oz vs cs Q hz hc ho hn hZ ht ih =>
  intro σ s w xs d hv hk
  simp only [Vs] at hv
  obtain ⟨y, l, rfl, h1, h2⟩ := hv
  unfold keyC at hk
  dsimp only at hk
  split at hk
  case h_2 => simp at hk
  rename_i c' sz' x' hg
  simp only [List.cons.injEq, AV.sym.injEq] at hk
  obtain ⟨rfl, hk⟩ := hk
  obtain ⟨a, bb, oo, κ, e1, e2, e3⟩ := sls_at d h1 hg hz hc ho hn hZ
  exact ⟨a, bb, oo, κ, l, by rw [e1], e2, e3, ih d h2 hk⟩
 | bk α C b cells ks Zs vs cs Q hC ht ih =>
  intro σ s w xs d hv hk
  simp only [Vs] at hv
  obtain ⟨y, l, rfl, h1, h2⟩ := hv
  unfold keyC at hk
  dsimp only at hk
  split at hk
  case h_2 => simp at hk
  rename_i cells' ext esz hg
  simp only [List.cons.injEq, AV.agg.injEq] at hk
  obtain ⟨rfl, hk⟩ := hk
  have hlen : (keyS s cells').length = ks.length := by
   rw [keyS_length]
   exact hC.len
  obtain ⟨hk1, hk2⟩ := List.append_inj hk hlen
  simp only [V] at h1
  obtain ⟨p, hp, rfl⟩ := h1
  obtain ⟨ob, hob, cl, ty, fr, rfl, hfr, lc, ex, k1, k2, k3, k4⟩ := d.blkP hg hp
  obtain ⟨g1, g2⟩ := hC.get d k1 hk1
  refine ⟨p.1, p.2, l, rfl, ⟨lt_of_get hob, fun j Z hj => ?_⟩, ih d h2 hk2⟩
  obtain ⟨a, bb, oo, κ, e1, e2, e3⟩ := g2 j Z hj
  refine ⟨a, bb, oo, κ, ⟨cl, ty, fr, hob, fun i v hv => ?_⟩, e2, e3⟩
  cases i with
  | zero =>
   simp at hv; subst hv
   exact k4 j _ e1
  | succ i => simp at hv
end
end Go.Proofs.YtocabeobfbhajaaGreatDoor.Sx
end
section
namespace Go.Proofs.YtocabeobfbhajaaGreatDoor.Sx
noncomputable section
open Go Go.RowKit
section
variable {G : Gl} {P : Program}
def byteAt (s : ByteArray) (i : Int) : Int := ((s.data.toList.getD i.toNat 0).toNat : Int)
theorem byteAt_get {s : ByteArray} {i : Int} (h0 : 0 ≤ i) (h : i < s.size) : ∃ b : UInt8, s[i.toNat]? = some b ∧ (b.toNat : Int) = byteAt s i := by
 have h1 : i.toNat < s.size := by omega
 refine ⟨s[i.toNat], getElem?_pos s _ h1, ?_⟩
 unfold byteAt
 rw [List.getD_eq_getElem?_getD, List.getElem?_eq_getElem (by rw [Array.length_toList]; exact h1)]
 rfl
theorem q_idxStr {a i r : AV} {t : Nat} {k : IntKind} {m : Int} {s : ByteArray} (hb : Nat.ble t 9999 = true) (hs0 : iv G.sy a = some (.string s)) (h2 : iv G.sy i = some (.int k m)) (hm : 0 ≤ m ∧ m < ((s.size : Nat) : Int)) (hr : iv G.sy r = some (.int .u8 (byteAt s m))) (ht : stT P t = true) : QOK G P ⟨3000000000 + t, [a, i], r⟩ := by
 unfold stT at ht
 split at ht
 case h_2 => cases ht
 rename_i ht'
 have e1 := Nat.le_of_ble_eq_true hb
 refine opOK (ble100 (by omega)) (Nat.ble_eq_true_of_le (by omega)) ?_
 rintro ⟨dst, op, ty, pos, after, guard⟩ xs σ ac hs hk hv w
 simp only at hk hv
 obtain ⟨z, y, rfl, rfl⟩ : ∃ z y, op = .index t z y ∧ xs = [z, y] := by
  generalize htag : 3000000000 + t = tag at hk
  cases hk
  case un o t x => have := UnOp.ctor_le o; omega
  case index t' x y g1 =>
   have : t' = t := by omega
   subst this
   exact ⟨_, _, rfl, rfl⟩
  all_goals omega
 simp only [Vs, List.map_cons, List.map_nil] at hv
 obtain ⟨u, l, hu, hv1, u', l', hu', hv2, rfl⟩ := hv
 cases hu
 cases hu'
 have g1 := iv_of hv1 (by rw [hs]; exact hs0)
 have g2 := iv_of hv2 (by rw [hs]; exact h2)
 obtain ⟨b, e2, e3⟩ := byteAt_get hm.1 hm.2
 refine ⟨.int .u8 (byteAt s m), run_v ?_, iv_to (by rw [hs]; exact hr) rfl⟩
 rw [g1, g2]
 simp only [Instr.index, asIntOf, Sem.run_bind, Sem.run_pure, Result.andThen_ok, run_underlying ht', hm.1, if_true, e2, e3]
theorem q_sadd {a b r : AV} {s t : ByteArray} (h2 : iv G.sy a = some (.string s)) (h3 : iv G.sy b = some (.string t)) (h4 : iv G.sy r = some (.string (s ++ t))) (h : ((s.size : Nat) : Int) + ((t.size : Nat) : Int) ≤ 9223372036854775807) : QOK G P ⟨tagB .add, [a, b], r⟩ :=
 .inl ⟨rfl, .add, a, b, rfl, rfl, .sadd s t rfl (by omega) h2 h3 h4⟩
theorem q_sne_t {a b : AV} {s t : ByteArray} (h2 : iv G.sy a = some (.string s)) (h3 : iv G.sy b = some (.string t)) (h : ¬ s = t) : QOK G P ⟨tagB .neq, [a, b], .bool true⟩ :=
 .inl ⟨rfl, .neq, a, b, rfl, rfl, .sne s t true rfl h2 h3 rfl ⟨fun _ => h, fun _ => rfl⟩⟩
theorem q_sne_f {a b : AV} {s t : ByteArray} (h2 : iv G.sy a = some (.string s)) (h3 : iv G.sy b = some (.string t)) (h : s = t) : QOK G P ⟨tagB .neq, [a, b], .bool false⟩ :=
 .inl ⟨rfl, .neq, a, b, rfl, rfl, .sne s t false rfl h2 h3 rfl ⟨fun e => by (cases e), fun e => (e h).elim⟩⟩
end
section
variable {P : Program} {α : Type} [Inhabited α] {C : Codec α}
end
section
variable {G : Gl} {P : Program} {a : AV} {k : IntKind} {m : Int}
end
theorem EnvOK.syL {E : Env} (ok : EnvOK E) {G : Gl} {l cal : List QE} {lps : List LE} (hq : QsOK G E.P l) (hc : CsOK G E.P cal) (hl : LpsOK (E.sy G l (sumT cal) (lpA lps)) lps) : EnvOK (E.sy G l (sumT cal) (lpA lps)) :=
 EnvOK.sy ok hq hc.sum fun f fn c h1 h2 => LpsOK.fn hl f fn c h1 h2
section
end
end
end Go.Proofs.YtocabeobfbhajaaGreatDoor.Sx
end
section
set_option maxRecDepth 100000
namespace Go.Proofs.YtocabeobfbhajaaGreatDoor
open Go Go.RowKit
structure Rf where
 reeve : Int
 number : Int
 deriving DecidableEq
structure Po where
 reeve : Int
 number : Int
 tick : Int
 kind : Int
 cse : Int
 owner : Int
 of : Rf
 by_ : Rf
 amount : Int
 deriving DecidableEq
def Rf.cells (x : Rf) : List Value := [.int .i64 x.reeve, .int .i64 x.number]
def Po.cells (p : Po) : List Value := [.int .i64 p.reeve, .int .i64 p.number, .int .i64 p.tick, .int .u8 p.kind, .int .i64 p.cse, .int .i64 p.owner, .int .i64 p.of.reeve, .int .i64 p.of.number, .int .i64 p.by_.reeve, .int .i64 p.by_.number, .int .i64 p.amount]
def Rf.val (x : Rf) : Value := .agg #[.int .i64 x.reeve, .int .i64 x.number]
def Po.val (p : Po) : Value := .agg #[.int .i64 p.reeve, .int .i64 p.number, .int .i64 p.tick, .int .u8 p.kind, .int .i64 p.cse, .int .i64 p.owner, .int .i64 p.of.reeve, .int .i64 p.of.number, .int .i64 p.by_.reeve, .int .i64 p.by_.number, .int .i64 p.amount]
def inB (n low high : Int) : Bool := decide (low ≤ n) && decide (n ≤ high)
theorem in_any (n low high : Int) (w : World) : Calls Tryz.prog 83 #[.int .i64 n, .int .i64 low, .int .i64 high] w fun e w' => e = .returned (.bool (inB n low high)) ∧ w = w' := by
 unfold inB
 go_enter Tryz.func83, Tryz.ntmps83
 go_wp2
 all_goals
  go_ret
  refine ⟨?_, rfl⟩
  simp_all
 all_goals omega
def manyB (n : Int) : Bool := n == 3 || n == 5
theorem isMany_any (n : Int) (w : World) : Calls Tryz.prog 75 #[.int .i64 n] w fun e w' => e = .returned (.bool (manyB n)) ∧ w = w' := by
 unfold manyB
 go_enter Tryz.func75, Tryz.ntmps75
 go_wp2
 all_goals
  go_ret
  refine ⟨?_, rfl⟩
  simp_all
theorem refOf_any (p : Po) (w : World) : Calls Tryz.prog 106 #[p.val] w fun e w' => e = .returned (Rf.val ⟨p.reeve, p.number⟩) ∧ (w.alloc (.cells p.cells.toArray 25)).alloc (.cells (Rf.cells ⟨p.reeve, p.number⟩).toArray 23) = w' := by
 unfold Po.val Rf.val Po.cells Rf.cells
 go_enter Tryz.func106, Tryz.ntmps106
 go_wp2
 all_goals
  go_returns
  exact ⟨rfl, rfl⟩
def isRefB (n : Int) (x : Rf) : Bool := inB x.reeve 0 (n - 1) && inB x.number 1 300
theorem isRef_any (n : Int) (hn : -9223372036854775807 ≤ n ∧ n ≤ 9223372036854775807) (x : Rf) (w : World) : Calls Tryz.prog 174 #[.int .i64 n, x.val] w fun e w' => e = .returned (.bool (isRefB n x)) ∧ w.alloc (.cells x.cells.toArray 23) = w' := by
 unfold Rf.val isRefB Rf.cells
 obtain ⟨n1, n2⟩ := hn
 go_enter Tryz.func174, Tryz.ntmps174
 go_wp2_with (first | (go_at_call 83; refine (in_any _ _ _ _).mono ?_; rintro e w' ⟨rfl, rfl⟩))
 all_goals
  go_ret
  refine ⟨?_, rfl⟩
  simp_all
def Po.bare (p : Po) : Po := { reeve := p.reeve, number := p.number, tick := p.tick, kind := p.kind, cse := 0, owner := p.owner, of := ⟨0, 0⟩, by_ := ⟨0, 0⟩, amount := p.amount }
theorem bare_any (p : Po) (w : World) : Calls Tryz.prog 175 #[p.val] w fun e w' => e = .returned p.bare.val ∧ (w.alloc (.cells p.cells.toArray 25)).alloc (.cells p.bare.cells.toArray 25) = w' := by
 unfold Po.val Po.bare Po.cells
 go_enter Tryz.func175, Tryz.ntmps175
 go_wp2
 go_returns
 exact ⟨rfl, rfl⟩
end Go.Proofs.YtocabeobfbhajaaGreatDoor
end
section
namespace Go.Proofs.YtocabeobfbhajaaGreatDoor
 deriving instance Inhabited for Rf
 deriving instance Inhabited for Po
end Go.Proofs.YtocabeobfbhajaaGreatDoor
namespace Go.Proofs.YtocabeobfbhajaaGreatDoor.Sx
open Go Go.Proofs.YtocabeobfbhajaaGreatDoor
def poV (x : Po) : List Value := [.int .i64 x.reeve, .int .i64 x.number, .int .i64 x.tick, .int .u8 x.kind, .int .i64 x.cse, .int .i64 x.owner, .int .i64 x.of.reeve, .int .i64 x.of.number, .int .i64 x.by_.reeve, .int .i64 x.by_.number, .int .i64 x.amount]
end Go.Proofs.YtocabeobfbhajaaGreatDoor.Sx
end
section
set_option maxRecDepth 100000
namespace Go.Proofs.YtocabeobfbhajaaGreatDoor
open Go Go.RowKit
def Po.me (p : Po) : Rf := ⟨p.reeve, p.number⟩
def zeroRf : Rf := ⟨0, 0⟩
def preB (n : Int) (p : Po) : Bool := manyB n && isRefB n p.me && inB p.tick 0 100000 && inB p.owner 1 40 && inB p.amount 1 1000000
def bodyB (n : Int) (p : Po) : Bool :=
 if p.kind = 1 ∨ p.kind = 2 then p.of == zeroRf && p.by_ == zeroRf && inB p.cse 1 1000000 && p.cse.tmod n == p.reeve
 else if p.kind = 3 then p.cse == 0 && p.by_ == zeroRf && isRefB n p.of && p.of.reeve != p.reeve
 else if p.kind = 4 then p.cse == 0 && isRefB n p.of && p.of.reeve == p.reeve && decide (p.of.number < p.number) && (p.by_ == zeroRf || isRefB n p.by_ && p.by_.reeve != p.reeve)
 else if p.kind = 5 then p.cse == 0 && p.by_ == zeroRf && isRefB n p.of && p.of.reeve == p.reeve && decide (p.of.number < p.number)
 else false
def formedB (n : Int) (p : Po) : Bool := preB n p && bodyB n p
theorem rf_beq (a b c d : Int) : ((⟨a, b⟩ : Rf) == ⟨c, d⟩) = (a == c && b == d) := by
 rw [Bool.eq_iff_iff, beq_iff_eq, Rf.mk.injEq, Bool.and_eq_true, beq_iff_eq, beq_iff_eq]
set_option maxHeartbeats 1000000 in
theorem formed_bad1 (n : Int) (p : Po) (w : World) (h1 : manyB n = false) : Calls Tryz.prog 81 #[.int .i64 n, p.val] w fun e w' => e = .returned (.bool false) ∧ Below w.heap.size w w' := by
 unfold Po.val
 go_enter Tryz.func81, Tryz.ntmps81
 go_wp2_with (first | (go_at_call 75; refine (isMany_any _ _).mono ?_; rintro e w' ⟨rfl, rfl⟩))
 go_ret
 refine ⟨rfl, ?_⟩
 go_grown
set_option maxHeartbeats 2000000 in
theorem formed_bad2 (n : Int) (p : Po) (w : World) (h1 : manyB n = true) (h2 : isRefB n p.me = false) : Calls Tryz.prog 81 #[.int .i64 n, p.val] w fun e w' => e = .returned (.bool false) ∧ Below w.heap.size w w' := by
 have h35 : n = 3 ∨ n = 5 := by unfold manyB at h1; simpa using h1
 have hn : -9223372036854775807 ≤ n ∧ n ≤ 9223372036854775807 := by omega
 have hn0 : (n == 0) = false := by simp; omega
 have HM := hid (isMany_any n)
 have HR := hid (refOf_any p)
 have HB := hid (bare_any p)
 have HI := hid (isRef_any n hn)
 unfold Po.me at *
 simp only [Po.val, Po.bare, Po.cells, Rf.val, Rf.cells] at *
 go_enter Tryz.func81, Tryz.ntmps81
 go_wp2_with (first
  | (go_at_call 75; refine (HM.out _).mono ?_; rintro e w' ⟨rfl, rfl⟩)
  | (go_at_call 106; refine (HR.out _).mono ?_; rintro e w' ⟨rfl, rfl⟩)
  | (go_at_call 175; refine (HB.out _).mono ?_; rintro e w' ⟨rfl, rfl⟩)
  | (go_at_call 83; refine (in_any _ _ _ _).mono ?_; rintro e w' ⟨rfl, rfl⟩)
  | (go_at_call 174; refine (HI.out ⟨p.reeve, p.number⟩ _).mono ?_; rintro e w' ⟨rfl, rfl⟩))
 go_ret
 refine ⟨rfl, ?_⟩
 go_grown
set_option maxHeartbeats 2000000 in
theorem formed_bad3 (n : Int) (p : Po) (w : World) (h1 : manyB n = true) (h2 : isRefB n p.me = true) (h3 : inB p.tick 0 100000 = false) : Calls Tryz.prog 81 #[.int .i64 n, p.val] w fun e w' => e = .returned (.bool false) ∧ Below w.heap.size w w' := by
 have h35 : n = 3 ∨ n = 5 := by unfold manyB at h1; simpa using h1
 have hn : -9223372036854775807 ≤ n ∧ n ≤ 9223372036854775807 := by omega
 have hn0 : (n == 0) = false := by simp; omega
 have HM := hid (isMany_any n)
 have HR := hid (refOf_any p)
 have HB := hid (bare_any p)
 have HI := hid (isRef_any n hn)
 unfold Po.me at *
 simp only [Po.val, Po.bare, Po.cells, Rf.val, Rf.cells] at *
 go_enter Tryz.func81, Tryz.ntmps81
 go_wp2_with (first
  | (go_at_call 75; refine (HM.out _).mono ?_; rintro e w' ⟨rfl, rfl⟩)
  | (go_at_call 106; refine (HR.out _).mono ?_; rintro e w' ⟨rfl, rfl⟩)
  | (go_at_call 175; refine (HB.out _).mono ?_; rintro e w' ⟨rfl, rfl⟩)
  | (go_at_call 83; refine (in_any _ _ _ _).mono ?_; rintro e w' ⟨rfl, rfl⟩)
  | (go_at_call 174; refine (HI.out ⟨p.reeve, p.number⟩ _).mono ?_; rintro e w' ⟨rfl, rfl⟩))
 go_ret
 refine ⟨rfl, ?_⟩
 go_grown
set_option maxHeartbeats 2000000 in
theorem formed_bad4 (n : Int) (p : Po) (w : World) (h1 : manyB n = true) (h2 : isRefB n p.me = true) (h3 : inB p.tick 0 100000 = true) (h4 : inB p.owner 1 40 = false) : Calls Tryz.prog 81 #[.int .i64 n, p.val] w fun e w' => e = .returned (.bool false) ∧ Below w.heap.size w w' := by
 have h35 : n = 3 ∨ n = 5 := by unfold manyB at h1; simpa using h1
 have hn : -9223372036854775807 ≤ n ∧ n ≤ 9223372036854775807 := by omega
 have hn0 : (n == 0) = false := by simp; omega
 have HM := hid (isMany_any n)
 have HR := hid (refOf_any p)
 have HB := hid (bare_any p)
 have HI := hid (isRef_any n hn)
 unfold Po.me at *
 simp only [Po.val, Po.bare, Po.cells, Rf.val, Rf.cells] at *
 go_enter Tryz.func81, Tryz.ntmps81
 go_wp2_with (first
  | (go_at_call 75; refine (HM.out _).mono ?_; rintro e w' ⟨rfl, rfl⟩)
  | (go_at_call 106; refine (HR.out _).mono ?_; rintro e w' ⟨rfl, rfl⟩)
  | (go_at_call 175; refine (HB.out _).mono ?_; rintro e w' ⟨rfl, rfl⟩)
  | (go_at_call 83; refine (in_any _ _ _ _).mono ?_; rintro e w' ⟨rfl, rfl⟩)
  | (go_at_call 174; refine (HI.out ⟨p.reeve, p.number⟩ _).mono ?_; rintro e w' ⟨rfl, rfl⟩))
 go_ret
 refine ⟨rfl, ?_⟩
 go_grown
set_option maxHeartbeats 2000000 in
theorem formed_bad5 (n : Int) (p : Po) (w : World) (h1 : manyB n = true) (h2 : isRefB n p.me = true) (h3 : inB p.tick 0 100000 = true) (h4 : inB p.owner 1 40 = true) (h5 : inB p.amount 1 1000000 = false) : Calls Tryz.prog 81 #[.int .i64 n, p.val] w fun e w' => e = .returned (.bool false) ∧ Below w.heap.size w w' := by
 have h35 : n = 3 ∨ n = 5 := by unfold manyB at h1; simpa using h1
 have hn : -9223372036854775807 ≤ n ∧ n ≤ 9223372036854775807 := by omega
 have hn0 : (n == 0) = false := by simp; omega
 have HM := hid (isMany_any n)
 have HR := hid (refOf_any p)
 have HB := hid (bare_any p)
 have HI := hid (isRef_any n hn)
 unfold Po.me at *
 simp only [Po.val, Po.bare, Po.cells, Rf.val, Rf.cells] at *
 go_enter Tryz.func81, Tryz.ntmps81
 go_wp2_with (first
  | (go_at_call 75; refine (HM.out _).mono ?_; rintro e w' ⟨rfl, rfl⟩)
  | (go_at_call 106; refine (HR.out _).mono ?_; rintro e w' ⟨rfl, rfl⟩)
  | (go_at_call 175; refine (HB.out _).mono ?_; rintro e w' ⟨rfl, rfl⟩)
  | (go_at_call 83; refine (in_any _ _ _ _).mono ?_; rintro e w' ⟨rfl, rfl⟩)
  | (go_at_call 174; refine (HI.out ⟨p.reeve, p.number⟩ _).mono ?_; rintro e w' ⟨rfl, rfl⟩))
 go_ret
 refine ⟨rfl, ?_⟩
 go_grown
end Go.Proofs.YtocabeobfbhajaaGreatDoor
end
section
set_option maxRecDepth 100000
namespace Go.Proofs.YtocabeobfbhajaaGreatDoor
open Go Go.RowKit
theorem if_ok (x y : Int) (b : Bool) (w : World) : (if x = y then (Result.ok (Next.value (Value.bool b)) w : Result Next) else Result.ok (Next.value (Value.bool false)) w) = Result.ok (Next.value (Value.bool (x == y && b))) w := by
 by_cases h : x = y <;> simp [h]
end Go.Proofs.YtocabeobfbhajaaGreatDoor
end
section
namespace Go.Proofs.YtocabeobfbhajaaGreatDoor.Mix
open Go
variable {P : Program} {ops : Array Oper} {Q : Exit → Act → World → Prop} {md : Region.Mode}
def Closed (md : Region.Mode) (ops : Array Oper) (listed : Array Bool) : Prop :=
 listed.size = ops.size ∧ ∀ j oj, ops[j]? = some oj → listed.getD j false = true → ∀ e ∈ oj.after, Region.binds md e = true → listed.getD e.on false = true
def waits (md : Region.Mode) (ops : Array Oper) : Nat → Nat → Nat → Bool
 | 0, _, _ => false
 | f + 1, j, i => match ops[j]? with
  | some oj => oj.after.any fun e => Region.binds md e && (e.on == i || waits md ops f e.on i)
  | none => false
theorem waits_listed {listed : Array Bool} (hc : Closed md ops listed) : ∀ (f j i : Nat), waits md ops f j i = true → listed.getD j false = true → listed.getD i false = true
 | 0, _, _, h, _ => by simp [waits] at h
 | f + 1, j, i, h, hj => by
  unfold waits at h
  split at h
  ·rename_i oj hoj
   obtain ⟨e, he, hb⟩ := Array.any_eq_true'.1 h
   simp only [Bool.and_eq_true, Bool.or_eq_true, beq_iff_eq] at hb
   have h1 := hc.2 j oj hoj hj e he hb.1
   rcases hb.2 with h2 | h2
   ·rw [← h2]; exact h1
   ·exact waits_listed hc f e.on i h2 h1
  ·cases h
theorem waits_ready {listed : Array Bool} (hc : Closed md ops listed) (f j i : Nat) (h : waits md ops f j i = true) (hj : j ∈ Region.ready md ops listed) : listed.getD i false = true := by
 obtain ⟨_, oj, hoj, hall⟩ := mem_ready.1 hj
 cases f with
 | zero => simp [waits] at h
 | succ f =>
  unfold waits at h
  simp only [hoj] at h
  obtain ⟨e, he, hb⟩ := Array.any_eq_true'.1 h
  simp only [Bool.and_eq_true, Bool.or_eq_true, beq_iff_eq] at hb
  have h1 := hall e he hb.1
  rcases hb.2 with h2 | h2
  ·rw [← h2]; exact h1
  ·exact waits_listed hc f e.on i h2 h1
theorem getD_false_of_true {listed : Array Bool} {i : Nat} (h : listed.getD i true = false) : listed.getD i false = false := by
 rcases Nat.lt_or_ge i listed.size with h' | h'
 ·simp [h'] at h ⊢; exact h
 ·simp [Array.getElem?_eq_none h'] at h
theorem Closed.set {listed : Array Bool} (hc : Closed md ops listed) {i : Nat} (hi : i ∈ Region.ready md ops listed) : Closed md ops (listed.setIfInBounds i true) := by
 obtain ⟨_, oi, hoi, hall⟩ := mem_ready.1 hi
 refine ⟨by rw [Array.size_setIfInBounds]; exact hc.1, ?_⟩
 intro j oj hj hl e he hb
 by_cases hij : i = j
 ·subst hij
  have : oj = oi := Option.some.inj (hj.symm.trans hoi)
  subst this
  exact getD_set_true (hall e he hb)
 ·rw [getD_set_ne false hij] at hl
  exact getD_set_true (hc.2 j oj hj hl e he hb)
def wpAnyK (P : Program) (md : Region.Mode) (ops : Array Oper) (Q : Exit → Act → World → Prop) (C : World → Prop) (E : Nat) : Nat → Array Bool → Act → World → Prop
 | 0, listed, a, w => Region.ready md ops listed = [] ∧ Q .normal a w
 | fuel + 1, listed, a, w =>
  (Region.ready md ops listed = [] → Q .normal a w) ∧
  ∀ i ∈ Region.ready md ops listed, wpOp P ops Q i (fun a' w' => ((i ≠ E ∧ listed.getD E false = false) → C w') ∧ wpAnyK P md ops Q C E fuel (listed.setIfInBounds i true) a' w') a w
theorem any_of_K {C : World → Prop} {E : Nat} : ∀ (fuel : Nat) (listed : Array Bool) (a : Act) (w : World), wpAnyK P md ops Q C E fuel listed a w → wpAny P md ops Q fuel listed a w
 | 0, _, _, _, h => h
 | fuel + 1, _, _, _, h => ⟨h.1, fun i hi => wpOp_mono (fun a' w' h' => any_of_K fuel _ a' w' h'.2) (h.2 i hi)⟩
theorem K_of_any {C : World → Prop} {E : Nat} : ∀ (fuel : Nat) (listed : Array Bool) (a : Act) (w : World), listed.getD E false = true → wpAny P md ops Q fuel listed a w → wpAnyK P md ops Q C E fuel listed a w
 | 0, _, _, _, _, h => h
 | fuel + 1, _, _, _, hE, h => ⟨h.1, fun i hi => wpOp_mono (fun a' w' h' => ⟨fun hx => (by rw [hE] at hx; cases hx.2), K_of_any fuel _ a' w' (getD_set_true hE) h'⟩) (h.2 i hi)⟩
theorem K_first {C Y : World → Prop} {E i : Nat} {oi : Oper} {v : Value} (hi : ops[i]? = some oi) (hsel : ∀ (j : Nat) (o : Oper) cs b, ops[j]? = some o → o.op ≠ .select cs b)
  (hQ : ∀ c a w, Q (.panic c) (a.put oi.dst v) w → Q (.panic c) a w) (hiE : i ≠ E)
  (hY : ∀ listed', Closed md ops listed' → listed'.getD i true = false → ∀ j ∈ Region.ready md ops listed', j ≠ i → ∀ w', ((j ≠ E ∧ (listed'.setIfInBounds i true).getD E false = false) → C w') → Y w') :
  ∀ (fuel : Nat) (listed : Array Bool) (a : Act) (w : World), Closed md ops listed →
   (∀ j oj, ops[j]? = some oj → j ≠ i → listed.getD j true = false → (∀ e ∈ oj.after, Region.binds md e = true → e.on ≠ i) → oi.apart ops oj = true) →
   i ∈ Region.ready md ops listed → YieldsIf P ops Y oi v a → Y w → (listed.getD E false = false → C w) →
   wpAnyK P md ops Q C E fuel (listed.setIfInBounds i true) (a.put oi.dst v) w → wpAnyK P md ops Q C E (fuel + 1) listed a w := by
 intro fuel
 induction fuel with
 | zero =>
  intro listed a w _ _ hr hy hYw hCw H
  refine ⟨fun h => (by rw [h] at hr; cases hr), fun j hj => ?_⟩
  by_cases hji : j = i
  ·subst hji; exact hy.wpOp hi hYw ⟨fun hx => hCw hx.2, H⟩
  ·have := ready_mono hj hji
   rw [H.1] at this
   cases this
 | succ fuel ih =>
  intro listed a w hcl hfree hr hy hYw hCw H
  refine ⟨fun h => (by rw [h] at hr; cases hr), fun j hj => ?_⟩
  by_cases hji : j = i
  ·subst hji; exact hy.wpOp hi hYw ⟨fun hx => hCw hx.2, H⟩
  ·have h1 := H.2 j (ready_mono hj hji)
   obtain ⟨hjun, oj, hoj, hall⟩ := mem_ready.1 hj
   have hiun := (mem_ready.1 hr).1
   have hnot : ∀ e ∈ oj.after, Region.binds md e = true → e.on ≠ i := fun e he hb heq => by
    have h1 := hall e he hb
    rw [heq, getD_false_of_true hiun] at h1
    cases h1
   have h2 := wpOp_putIf hoj (hfree j oj hoj hji hjun hnot) (fun cs b => hsel i oi cs b hi) (fun cs b => hsel j oj cs b hoj) hQ hy h1
   have hfree' : ∀ k ok, ops[k]? = some ok → k ≠ i → (listed.setIfInBounds j true).getD k true = false →
     (∀ e ∈ ok.after, Region.binds md e = true → e.on ≠ i) → oi.apart ops ok = true := fun k ok hk hki hun hno => by
    refine hfree k ok hk hki ?_ hno
    by_cases hjk : j = k
    ·subst hjk; exact hjun
    ·rw [getD_set_ne true hjk] at hun; exact hun
   refine wpOp_mono (fun a' w' h3 => ?_) h2
   obtain ⟨hy', hC', H'⟩ := h3
   have hsame : (listed.setIfInBounds i true).getD E false = listed.getD E false := getD_set_ne false hiE
   have hC1 : j ≠ E ∧ listed.getD E false = false → C w' := fun hx => hC' ⟨hx.1, by rw [hsame]; exact hx.2⟩
   refine ⟨hC1, ih (listed.setIfInBounds j true) a' w' (hcl.set hj) hfree' (ready_mono hr (Ne.symm hji)) hy' (hY listed hcl hiun j hj hji w' hC') (fun hx => ?_) ?_⟩
   ·by_cases hjE : j = E
    ·exfalso
     subst hjE
     have hlt : j < listed.size := by
      rcases Nat.lt_or_ge j listed.size with h' | h'
      ·exact h'
      ·simp [Array.getElem?_eq_none h'] at hjun
     simp [hlt] at hx
    ·exact hC1 ⟨hjE, by rw [getD_set_ne false hjE] at hx; exact hx⟩
   ·rw [Array.setIfInBounds_comm _ _ hji]
    exact H'
def grp (P : Program) (ops : Array Oper) (Q : Exit → Act → World → Prop) (C : World → Prop) : List (Nat × Nat) → (Act → World → Prop) → Act → World → Prop
 | [], K, a, w => K a w
 | (i, 0) :: r, K, a, w => match ops[i]? with
  | some o => if Region.wanted o (yielded ops a.tmps) then ∃ v, (∀ w', (execOp a.eval o).run P w' = .ok (.value v) w') ∧ grp P ops Q C r K (a.put o.dst v) w else grp P ops Q C r K (a.put o.dst undef) w
  | none => False
 | (i, 1) :: r, K, a, w => match ops[i]? with
  | some o => if Region.wanted o (yielded ops a.tmps) then ∃ v, (∀ w', C w' → (execOp a.eval o).run P w' = .ok (.value v) w') ∧ grp P ops Q C r K (a.put o.dst v) w else grp P ops Q C r K (a.put o.dst undef) w
  | none => False
 | (i, _ + 2) :: r, K, a, w => wpOp P ops Q i (fun a' w' => C w' ∧ grp P ops Q C r K a' w') a w
def grps (P : Program) (ops : Array Oper) (Q : Exit → Act → World → Prop) : List (List (Nat × Nat) × Option Nat) → Act → World → Prop
 | [], a, w => Q .normal a w
 | (g, none) :: gs, a, w => ∃ C : World → Prop, C w ∧ grp P ops Q C g (grps P ops Q gs) a w
 | (g, some e) :: gs, a, w => ∃ C : World → Prop, C w ∧ grp P ops Q C g (fun a' w' => wpOp P ops Q e (grps P ops Q gs) a' w') a w
def okItem (md : Region.Mode) (ops : Array Oper) (e : Option Nat) (i k : Nat) (listed : Array Bool) : Bool :=
 bif decide (2 ≤ k) then decide (Region.ready md ops listed = [i]) && decide (e ≠ some i) else
  (Region.ready md ops listed).contains i && Region.free md ops listed i && (match e with | some x => decide (i ≠ x) && (decide (k = 0) || waits md ops ops.size x i) | none => true)
def chkItems (md : Region.Mode) (ops : Array Oper) (e : Option Nat) : List (Nat × Nat) → Array Bool → Option (Array Bool)
 | [], listed => some listed
 | (i, k) :: r, listed =>
  if okItem md ops e i k listed = true then chkItems md ops e r (listed.setIfInBounds i true) else none
def chk (md : Region.Mode) (ops : Array Oper) : List (List (Nat × Nat) × Option Nat) → Array Bool → Bool
 | [], listed => (Region.ready md ops listed).isEmpty
 | (g, none) :: gs, listed => gs.isEmpty && match chkItems md ops none g listed with
  | some l => (Region.ready md ops l).isEmpty
  | none => false
 | (g, some e) :: gs, listed => !(listed.getD e false) && match chkItems md ops (some e) g listed with
  | some l => decide (Region.ready md ops l = [e]) && chk md ops gs (l.setIfInBounds e true)
  | none => false
def len : List (List (Nat × Nat) × Option Nat) → Nat
 | [] => 0
 | (g, none) :: gs => g.length + len gs
 | (g, some _) :: gs => g.length + (1 + len gs)
theorem grp_sound {C : World → Prop} {e : Option Nat} {n : Nat} {K : Act → World → Prop} (hsel : Region.noSelect ops = true) (hQ : ∀ c a d v w, Q (.panic c) (a.put d v) w → Q (.panic c) a w) :
  ∀ (g : List (Nat × Nat)) (listed l : Array Bool) (a : Act) (w : World), Closed md ops listed → listed.getD (e.getD ops.size) false = false → chkItems md ops e g listed = some l → C w →
   (∀ a w, Closed md ops l → l.getD (e.getD ops.size) false = false → C w → K a w → wpAnyK P md ops Q C (e.getD ops.size) n l a w) →
   grp P ops Q C g K a w → wpAnyK P md ops Q C (e.getD ops.size) (g.length + n) listed a w
 | [], listed, l, a, w, hcl, hE, hck, hC, hK, h => by
  simp only [chkItems, Option.some.injEq] at hck
  subst hck
  simp only [List.length_nil, Nat.zero_add]
  exact hK a w hcl hE hC h
 | (i, k) :: r, listed, l, a, w, hcl, hE, hck, hC, hK, h => by
  unfold chkItems at hck
  split at hck
  case isFalse => cases hck
  rename_i hcond
  rw [show ((i, k) :: r).length + n = (r.length + n) + 1 by simp only [List.length_cons]; omega]
  unfold okItem at hcond
  by_cases hk2 : 2 ≤ k
  ·rw [decide_eq_true hk2] at hcond
   simp only [cond_true, Bool.and_eq_true, decide_eq_true_eq] at hcond
   obtain ⟨k', rfl⟩ : ∃ k', k = k' + 2 := ⟨k - 2, by omega⟩
   unfold grp at h
   have hir : i ∈ Region.ready md ops listed := by rw [hcond.1]; simp
   have hiE : i ≠ e.getD ops.size := by
    cases e with
    | none =>
     obtain ⟨_, o, ho, _⟩ := mem_ready.1 hir
     have := (Array.getElem?_eq_some_iff.1 ho).1
     simp; omega
    | some x => intro hx; exact hcond.2 (by simpa using hx.symm)
   refine ⟨fun h0 => (by rw [h0] at hir; cases hir), fun j hj => ?_⟩
   rw [hcond.1] at hj
   obtain rfl : j = i := by simpa using hj
   exact wpOp_mono (fun a' w' hx => ⟨fun _ => hx.1, grp_sound hsel hQ r _ l a' w' (hcl.set hir) (by rw [getD_set_ne false hiE]; exact hE) hck hx.1 hK hx.2⟩) h
  ·rw [decide_eq_false hk2] at hcond
   simp only [cond_false, Bool.and_eq_true] at hcond
   obtain ⟨⟨hr, hf⟩, hw⟩ := hcond
   have hir : i ∈ Region.ready md ops listed := by simpa using hr
   obtain ⟨hiun, o, ho, hall⟩ := mem_ready.1 hir
   have hlt := (Array.getElem?_eq_some_iff.1 ho).1
   have hiE : i ≠ e.getD ops.size := by
    cases e with
    | none => simp; omega
    | some x => simp only [Bool.and_eq_true, decide_eq_true_eq] at hw; exact hw.1
   have hE' : (listed.setIfInBounds i true).getD (e.getD ops.size) false = false := by rw [getD_set_ne false hiE]; exact hE
   have hfree := Region.free_spec ho hf
   by_cases hk0 : k = 0
   ·subst hk0
    unfold grp at h
    simp only [ho] at h
    have go : ∀ v, YieldsIf P ops (fun _ => True) o v a → grp P ops Q C r K (a.put o.dst v) w → wpAnyK P md ops Q C (e.getD ops.size) (r.length + n + 1) listed a w := fun v hy hg =>
     K_first (Y := fun _ => True) ho (Region.noSelect_spec hsel) (fun c a w => hQ c a o.dst v w) hiE (fun _ _ _ _ _ _ _ _ => trivial) _ listed a w hcl (fun j oj => hfree j oj) hir hy trivial (fun _ => hC)
      (grp_sound hsel hQ r _ l _ w (hcl.set hir) hE' hck hC hK hg)
    split at h
    ·rename_i hwt
     obtain ⟨v, hv, hg⟩ := h
     exact go v (.inl ⟨hwt, fun w' _ => hv w'⟩) hg
    ·rename_i hwt
     exact go undef (.inr ⟨by simpa using hwt, rfl⟩) h
   ·have hk1 : k = 1 := by omega
    subst hk1
    unfold grp at h
    simp only [ho] at h
    have hY : ∀ listed', Closed md ops listed' → listed'.getD i true = false → ∀ j ∈ Region.ready md ops listed', j ≠ i → ∀ w', ((j ≠ e.getD ops.size ∧ (listed'.setIfInBounds i true).getD (e.getD ops.size) false = false) → C w') → C w' := by
     intro listed' hcl' hun j hj hji w' hx
     refine hx ⟨?_, ?_⟩
     ·cases e with
      | none =>
       obtain ⟨_, oj, hoj, _⟩ := mem_ready.1 hj
       have := (Array.getElem?_eq_some_iff.1 hoj).1
       simp; omega
      | some x =>
       simp only [Bool.and_eq_true, Bool.or_eq_true, decide_eq_true_eq] at hw
       intro he
       have hxj : j = x := by simpa using he
       subst hxj
       rcases hw.2 with h1 | h1
       ·exact absurd h1 (by omega)
       ·have := waits_ready hcl' _ _ _ h1 hj
        rw [getD_false_of_true hun] at this
        cases this
     ·rw [getD_set_ne false hiE]
      cases e with
      | none =>
       simp only [Option.getD_none]
       rw [← hcl'.1]; simp
      | some x =>
       simp only [Bool.and_eq_true, Bool.or_eq_true, decide_eq_true_eq] at hw
       simp only [Option.getD_some]
       cases hgd : listed'.getD x false with
       | false => rfl
       | true =>
        rcases hw.2 with h1 | h1
        ·exact absurd h1 (by omega)
        ·have := waits_listed hcl' _ _ _ h1 hgd
         rw [getD_false_of_true hun] at this
         cases this
    have go : ∀ v, YieldsIf P ops C o v a → grp P ops Q C r K (a.put o.dst v) w → wpAnyK P md ops Q C (e.getD ops.size) (r.length + n + 1) listed a w := fun v hy hg =>
     K_first (Y := C) ho (Region.noSelect_spec hsel) (fun c a w => hQ c a o.dst v w) hiE hY _ listed a w hcl (fun j oj => hfree j oj) hir hy hC (fun _ => hC)
      (grp_sound hsel hQ r _ l _ w (hcl.set hir) hE' hck hC hK hg)
    split at h
    ·rename_i hwt
     obtain ⟨v, hv, hg⟩ := h
     exact go v (.inl ⟨hwt, hv⟩) hg
    ·rename_i hwt
     exact go undef (.inr ⟨by simpa using hwt, rfl⟩) h
theorem grps_sound (hsel : Region.noSelect ops = true) (hQ : ∀ c a d v w, Q (.panic c) (a.put d v) w → Q (.panic c) a w) :
  ∀ (gs : List (List (Nat × Nat) × Option Nat)) (listed : Array Bool) (a : Act) (w : World), Closed md ops listed → chk md ops gs listed = true →
   grps P ops Q gs a w → wpAny P md ops Q (len gs) listed a w
 | [], listed, a, w, _, hck, h => by
  simp only [chk, List.isEmpty_iff] at hck
  exact ⟨hck, h⟩
 | (g, none) :: gs, listed, a, w, hcl, hck, h => by
  obtain ⟨C, hC, h⟩ := h
  unfold chk at hck
  simp only [Bool.and_eq_true, List.isEmpty_iff] at hck
  obtain ⟨rfl, hck⟩ := hck
  split at hck
  case h_2 => cases hck
  rename_i l hl
  simp only [List.isEmpty_iff] at hck
  refine any_of_K (C := C) (E := ops.size) _ _ _ _ ?_
  have := grp_sound (e := none) (n := 0) (K := grps P ops Q []) hsel hQ g listed l a w hcl (by rw [Option.getD_none, ← hcl.1]; simp) hl hC (fun a w _ _ _ hk => ⟨hck, hk⟩) h
  simpa [len] using this
 | (g, some e) :: gs, listed, a, w, hcl, hck, h => by
  obtain ⟨C, hC, h⟩ := h
  unfold chk at hck
  simp only [Bool.and_eq_true, Bool.not_eq_true'] at hck
  obtain ⟨hEn, hck⟩ := hck
  split at hck
  case h_2 => cases hck
  rename_i l hl
  simp only [Bool.and_eq_true, decide_eq_true_eq] at hck
  refine any_of_K (C := C) (E := e) _ _ _ _ ?_
  refine grp_sound (e := some e) (n := 1 + len gs) hsel hQ g listed l a w hcl hEn hl hC (fun a w hcl' hEl _ hk => ?_) h
  have her : e ∈ Region.ready md ops l := by rw [hck.1]; simp
  rw [show 1 + len gs = len gs + 1 by omega]
  refine ⟨fun h0 => (by rw [h0] at her; cases her), fun j hj => ?_⟩
  rw [hck.1] at hj
  obtain rfl : j = e := by simpa using hj
  have hlt : j < l.size := by
   obtain ⟨_, o, ho, _⟩ := mem_ready.1 her
   rw [hcl'.1]; exact (Array.getElem?_eq_some_iff.1 ho).1
  exact wpOp_mono (fun a' w' hx => ⟨fun hy => absurd rfl hy.1, K_of_any _ _ _ _ (by simp [hlt]) (grps_sound hsel hQ gs _ a' w' (hcl'.set her) hck.2 hx)⟩) hk
theorem closed_none : Closed md ops (Array.replicate ops.size false) := ⟨by simp, fun j oj _ hl => by
 rcases Nat.lt_or_ge j ops.size with h | h
 ·simp [h] at hl
 ·simp [h] at hl⟩
theorem wp_region_mix {id : Nat} {l : List Oper} {a : Act} {w : World} (gs : List (List (Nat × Nat) × Option Nat)) (hm : P.follows .mixedOrders = true)
  (hck : (Region.noSelect l.toArray && decide (len gs = l.toArray.size) && chk .any l.toArray gs (Array.replicate l.toArray.size false)) = true)
  (hQ : ∀ c a d v w, Q (.panic c) (a.put d v) w → Q (.panic c) a w) (h : grps P l.toArray Q gs a w.drew) : (Code.region id l.toArray true).wp P Q a w := by
 simp only [Bool.and_eq_true, decide_eq_true_eq] at hck
 obtain ⟨⟨hsel, hlen⟩, hck⟩ := hck
 refine wp_region_any hm ?_
 have := grps_sound (md := .any) hsel hQ gs _ a w.drew closed_none hck h
 rw [hlen] at this
 exact this
section
variable {C : World → Prop} {r : List (Nat × Nat)} {K : Act → World → Prop} {a : Act} {w : World} {i : Nat} {o : Oper}
theorem grps_nil (h : Q .normal a w) : grps P ops Q [] a w := h
theorem grps_last {g : List (Nat × Nat)} (C : World → Prop) (hC : C w) (h : grp P ops Q C g (grps P ops Q []) a w) : grps P ops Q [(g, none)] a w := ⟨C, hC, h⟩
theorem grps_some {g : List (Nat × Nat)} {e : Nat} {gs : List (List (Nat × Nat) × Option Nat)} (C : World → Prop) (hC : C w) (h : grp P ops Q C g (fun a' w' => wpOp P ops Q e (grps P ops Q gs) a' w') a w) : grps P ops Q ((g, some e) :: gs) a w := ⟨C, hC, h⟩
theorem grp_nil (h : K a w) : grp P ops Q C [] K a w := h
theorem grp_pure (ho : ops[i]? = some o) (hw : Region.wanted o (yielded ops a.tmps) = true) {v : Value} (hv : ∀ w', (execOp a.eval o).run P w' = .ok (.value v) w') (h : grp P ops Q C r K (a.put o.dst v) w) : grp P ops Q C ((i, 0) :: r) K a w := by
 unfold grp; simp only [ho, hw, if_true]; exact ⟨v, hv, h⟩
theorem grp_bool (ho : ops[i]? = some o) (hw : Region.wanted o (yielded ops a.tmps) = true) {b : Bool} (hv : ∀ w', (execOp a.eval o).run P w' = .ok (.value (.bool b)) w') (ht : b = true → grp P ops Q C r K (a.put o.dst (.bool true)) w)
  (hf : b = false → grp P ops Q C r K (a.put o.dst (.bool false)) w) : grp P ops Q C ((i, 0) :: r) K a w := by
 refine grp_pure ho hw hv ?_
 cases b
 ·exact hf rfl
 ·exact ht rfl
theorem grp_read (ho : ops[i]? = some o) (hw : Region.wanted o (yielded ops a.tmps) = true) {v : Value} (hv : ∀ w', C w' → (execOp a.eval o).run P w' = .ok (.value v) w') (h : grp P ops Q C r K (a.put o.dst v) w) : grp P ops Q C ((i, 1) :: r) K a w := by
 unfold grp; simp only [ho, hw, if_true]; exact ⟨v, hv, h⟩
theorem grp_skip0 (ho : ops[i]? = some o) (hw : Region.wanted o (yielded ops a.tmps) = false) (h : grp P ops Q C r K (a.put o.dst undef) w) : grp P ops Q C ((i, 0) :: r) K a w := by
 unfold grp; simp only [ho, hw, Bool.false_eq_true, if_false]; exact h
theorem grp_skip1 (ho : ops[i]? = some o) (hw : Region.wanted o (yielded ops a.tmps) = false) (h : grp P ops Q C r K (a.put o.dst undef) w) : grp P ops Q C ((i, 1) :: r) K a w := by
 unfold grp; simp only [ho, hw, Bool.false_eq_true, if_false]; exact h
theorem grp_eff (ho : ops[i]? = some o) (hw : Region.wanted o (yielded ops a.tmps) = true) (h : o.wp P a w (fun a' w' => C w' ∧ grp P ops Q C r K a' w') Q) : grp P ops Q C ((i, 2) :: r) K a w := by
 unfold grp wpOp; simp only [ho, hw, if_true]; exact .inl h
theorem op_last {K' : Act → World → Prop} (ho : ops[i]? = some o) (hw : Region.wanted o (yielded ops a.tmps) = true) (h : o.wp P a w K' Q) : wpOp P ops Q i K' a w := by
 unfold wpOp; simp only [ho, hw, if_true]; exact .inl h
theorem op_last_skip {K' : Act → World → Prop} (ho : ops[i]? = some o) (hw : Region.wanted o (yielded ops a.tmps) = false) (h : K' (a.put o.dst undef) w) : wpOp P ops Q i K' a w := by
 unfold wpOp; simp only [ho, hw, Bool.false_eq_true, if_false]; exact h
end
attribute [irreducible] grp grps
end Go.Proofs.YtocabeobfbhajaaGreatDoor.Mix
end
section
set_option maxRecDepth 100000
namespace Go.Proofs.YtocabeobfbhajaaGreatDoor
open Go Go.RowKit
attribute [local go_sem] if_ok Bool.and_true
set_option maxHeartbeats 2000000 in
theorem formed_fine (n : Int) (p : Po) (w : World) (h1 : manyB n = true) (h2 : isRefB n p.me = true) (h3 : inB p.tick 0 100000 = true) (h4 : inB p.owner 1 40 = true) (h5 : inB p.amount 1 1000000 = true) (hk : p.kind = 1) : Calls Tryz.prog 81 #[.int .i64 n, p.val] w fun e w' => e = .returned (.bool (bodyB n p)) ∧ Below w.heap.size w w' := by
 have h35 : n = 3 ∨ n = 5 := by unfold manyB at h1; simpa using h1
 have hn : -9223372036854775807 ≤ n ∧ n ≤ 9223372036854775807 := by omega
 have hn0 : (n == 0) = false := by simp; omega
 have hn1 : ¬ n = 0 := by omega
 obtain ⟨re, nu, ti, ki, cs, ow, ⟨ofr, ofn⟩, ⟨byr, byn⟩, am⟩ := p
 simp only at hk h2 h3 h4 h5
 subst hk
 have HM := hid (isMany_any n)
 have HR := hid (refOf_any ⟨re, nu, ti, 1, cs, ow, ⟨ofr, ofn⟩, ⟨byr, byn⟩, am⟩)
 have HB := hid (bare_any ⟨re, nu, ti, 1, cs, ow, ⟨ofr, ofn⟩, ⟨byr, byn⟩, am⟩)
 have HI := hid (isRef_any n hn)
 unfold Po.me at *
 simp only [Po.val, Po.bare, Po.cells, Rf.val, Rf.cells] at *
 go_enter Tryz.func81, Tryz.ntmps81
 go_wp2_with (first
  | (go_at_call 75; refine (HM.out _).mono ?_; rintro e w' ⟨rfl, rfl⟩)
  | (go_at_call 106; refine (HR.out _).mono ?_; rintro e w' ⟨rfl, rfl⟩)
  | (go_at_call 175; refine (HB.out _).mono ?_; rintro e w' ⟨rfl, rfl⟩)
  | (go_at_call 83; refine (in_any _ _ _ _).mono ?_; rintro e w' ⟨rfl, rfl⟩)
  | (go_at_call 174; refine (HI.out ⟨re, nu⟩ _).mono ?_; rintro e w' ⟨rfl, rfl⟩))
 refine Mix.wp_region_mix [([(0, 1), (1, 1), (2, 0), (3, 0), (4, 0), (5, 1)], some 6), ([(7, 0), (8, 0), (9, 0), (10, 1), (11, 0), (12, 0), (13, 0), (14, 1), (15, 0), (16, 0), (17, 0)], none)] (by kernel_rfl) (by kernel_rfl) (fun _ _ d _ _ h => by cases d <;> exact h) ?_
 refine Mix.grps_some (fun w' => w' = _) rfl ?_
 repeat' (first | (apply Mix.grp_bool; (focus (simp only [List.getElem?_toArray, List.getElem?_cons_succ, List.getElem?_cons_zero]; try exact rfl)); (focus rfl); (focus (intro w'; go_simp; try with_reducible exact rfl)); all_goals (intro hb; first | (cases hb; done) | skip); all_goals simp only [Act.put, List.setIfInBounds_toArray, List.set_cons_succ, List.set_cons_zero]) | (apply Mix.grp_pure; (focus (simp only [List.getElem?_toArray, List.getElem?_cons_succ, List.getElem?_cons_zero]; try exact rfl)); (focus rfl); (focus (intro w'; go_simp; try with_reducible exact rfl)); simp only [Act.put, List.setIfInBounds_toArray, List.set_cons_succ, List.set_cons_zero]) | (apply Mix.grp_read; (focus (simp only [List.getElem?_toArray, List.getElem?_cons_succ, List.getElem?_cons_zero]; try exact rfl)); (focus rfl); (focus (intro w' hC; (first | subst hC | (repeat (obtain ⟨_, hC⟩ := hC))); go_simp; try with_reducible exact rfl)); simp only [Act.put, List.setIfInBounds_toArray, List.set_cons_succ, List.set_cons_zero]) | (apply Mix.grp_skip0; (focus (simp only [List.getElem?_toArray, List.getElem?_cons_succ, List.getElem?_cons_zero]; try exact rfl)); (focus rfl); simp only [Act.put, List.setIfInBounds_toArray, List.set_cons_succ, List.set_cons_zero]) | (apply Mix.grp_skip1; (focus (simp only [List.getElem?_toArray, List.getElem?_cons_succ, List.getElem?_cons_zero]; try exact rfl)); (focus rfl); simp only [Act.put, List.setIfInBounds_toArray, List.set_cons_succ, List.set_cons_zero]))
 all_goals refine Mix.grp_nil ?_
 all_goals first | ((apply Mix.op_last; (focus (simp only [List.getElem?_toArray, List.getElem?_cons_succ, List.getElem?_cons_zero]; try exact rfl)); (focus rfl)); go_simp; refine (in_any _ _ _ _).mono ?_; rintro e w' ⟨rfl, rfl⟩; simp only [Act.put, List.setIfInBounds_toArray, List.set_cons_succ, List.set_cons_zero]) | (apply Mix.op_last_skip; (focus (simp only [List.getElem?_toArray, List.getElem?_cons_succ, List.getElem?_cons_zero]; try exact rfl)); (focus rfl); simp only [Act.put, List.setIfInBounds_toArray, List.set_cons_succ, List.set_cons_zero])
 all_goals refine Mix.grps_last (fun w' => w' = _) rfl ?_
 repeat' (first | (apply Mix.grp_bool; (focus (simp only [List.getElem?_toArray, List.getElem?_cons_succ, List.getElem?_cons_zero]; try exact rfl)); (focus rfl); (focus (intro w'; go_simp; try with_reducible exact rfl)); all_goals (intro hb; first | (cases hb; done) | skip); all_goals simp only [Act.put, List.setIfInBounds_toArray, List.set_cons_succ, List.set_cons_zero]) | (apply Mix.grp_pure; (focus (simp only [List.getElem?_toArray, List.getElem?_cons_succ, List.getElem?_cons_zero]; try exact rfl)); (focus rfl); (focus (intro w'; go_simp; try with_reducible exact rfl)); simp only [Act.put, List.setIfInBounds_toArray, List.set_cons_succ, List.set_cons_zero]) | (apply Mix.grp_read; (focus (simp only [List.getElem?_toArray, List.getElem?_cons_succ, List.getElem?_cons_zero]; try exact rfl)); (focus rfl); (focus (intro w' hC; (first | subst hC | (repeat (obtain ⟨_, hC⟩ := hC))); go_simp; try with_reducible exact rfl)); simp only [Act.put, List.setIfInBounds_toArray, List.set_cons_succ, List.set_cons_zero]) | (apply Mix.grp_skip0; (focus (simp only [List.getElem?_toArray, List.getElem?_cons_succ, List.getElem?_cons_zero]; try exact rfl)); (focus rfl); simp only [Act.put, List.setIfInBounds_toArray, List.set_cons_succ, List.set_cons_zero]) | (apply Mix.grp_skip1; (focus (simp only [List.getElem?_toArray, List.getElem?_cons_succ, List.getElem?_cons_zero]; try exact rfl)); (focus rfl); simp only [Act.put, List.setIfInBounds_toArray, List.set_cons_succ, List.set_cons_zero]))
 all_goals refine Mix.grp_nil (Mix.grps_nil ?_)
 all_goals go_wp2
 all_goals
  go_ret
  refine ⟨?_, (by go_grown)⟩
  refine congrArg (fun b => Ending.returned (Value.bool b)) (?_ : _ = bodyB _ _)
  clear HM HR HB HI
  simp_all [bodyB, zeroRf, rf_beq]
end Go.Proofs.YtocabeobfbhajaaGreatDoor
end
section
set_option maxRecDepth 100000
namespace Go.Proofs.YtocabeobfbhajaaGreatDoor
open Go Go.RowKit
attribute [local go_sem] if_ok Bool.and_true
set_option maxHeartbeats 2000000 in
theorem formed_fee (n : Int) (p : Po) (w : World) (h1 : manyB n = true) (h2 : isRefB n p.me = true) (h3 : inB p.tick 0 100000 = true) (h4 : inB p.owner 1 40 = true) (h5 : inB p.amount 1 1000000 = true) (hk : p.kind = 2) : Calls Tryz.prog 81 #[.int .i64 n, p.val] w fun e w' => e = .returned (.bool (bodyB n p)) ∧ Below w.heap.size w w' := by
 have h35 : n = 3 ∨ n = 5 := by unfold manyB at h1; simpa using h1
 have hn : -9223372036854775807 ≤ n ∧ n ≤ 9223372036854775807 := by omega
 have hn0 : (n == 0) = false := by simp; omega
 have hn1 : ¬ n = 0 := by omega
 obtain ⟨re, nu, ti, ki, cs, ow, ⟨ofr, ofn⟩, ⟨byr, byn⟩, am⟩ := p
 simp only at hk h2 h3 h4 h5
 subst hk
 have HM := hid (isMany_any n)
 have HR := hid (refOf_any ⟨re, nu, ti, 2, cs, ow, ⟨ofr, ofn⟩, ⟨byr, byn⟩, am⟩)
 have HB := hid (bare_any ⟨re, nu, ti, 2, cs, ow, ⟨ofr, ofn⟩, ⟨byr, byn⟩, am⟩)
 have HI := hid (isRef_any n hn)
 unfold Po.me at *
 simp only [Po.val, Po.bare, Po.cells, Rf.val, Rf.cells] at *
 go_enter Tryz.func81, Tryz.ntmps81
 go_wp2_with (first
  | (go_at_call 75; refine (HM.out _).mono ?_; rintro e w' ⟨rfl, rfl⟩)
  | (go_at_call 106; refine (HR.out _).mono ?_; rintro e w' ⟨rfl, rfl⟩)
  | (go_at_call 175; refine (HB.out _).mono ?_; rintro e w' ⟨rfl, rfl⟩)
  | (go_at_call 83; refine (in_any _ _ _ _).mono ?_; rintro e w' ⟨rfl, rfl⟩)
  | (go_at_call 174; refine (HI.out ⟨_, _⟩ _).mono ?_; rintro e w' ⟨rfl, rfl⟩))
 refine Mix.wp_region_mix [([(0, 1), (1, 1), (2, 0), (3, 0), (4, 0), (5, 1)], some 6), ([(7, 0), (8, 0), (9, 0), (10, 1), (11, 0), (12, 0), (13, 0), (14, 1), (15, 0), (16, 0), (17, 0)], none)] (by kernel_rfl) (by kernel_rfl) (fun _ _ d _ _ h => by cases d <;> exact h) ?_
 refine Mix.grps_some (fun w' => w' = _) rfl ?_
 repeat' (first | (apply Mix.grp_bool; (focus (simp only [List.getElem?_toArray, List.getElem?_cons_succ, List.getElem?_cons_zero]; try exact rfl)); (focus rfl); (focus (intro w'; go_simp; try with_reducible exact rfl)); all_goals (intro hb; first | (cases hb; done) | skip); all_goals simp only [Act.put, List.setIfInBounds_toArray, List.set_cons_succ, List.set_cons_zero]) | (apply Mix.grp_pure; (focus (simp only [List.getElem?_toArray, List.getElem?_cons_succ, List.getElem?_cons_zero]; try exact rfl)); (focus rfl); (focus (intro w'; go_simp; try with_reducible exact rfl)); simp only [Act.put, List.setIfInBounds_toArray, List.set_cons_succ, List.set_cons_zero]) | (apply Mix.grp_read; (focus (simp only [List.getElem?_toArray, List.getElem?_cons_succ, List.getElem?_cons_zero]; try exact rfl)); (focus rfl); (focus (intro w' hC; (first | subst hC | (repeat (obtain ⟨_, hC⟩ := hC))); go_simp; try with_reducible exact rfl)); simp only [Act.put, List.setIfInBounds_toArray, List.set_cons_succ, List.set_cons_zero]) | (apply Mix.grp_skip0; (focus (simp only [List.getElem?_toArray, List.getElem?_cons_succ, List.getElem?_cons_zero]; try exact rfl)); (focus rfl); simp only [Act.put, List.setIfInBounds_toArray, List.set_cons_succ, List.set_cons_zero]) | (apply Mix.grp_skip1; (focus (simp only [List.getElem?_toArray, List.getElem?_cons_succ, List.getElem?_cons_zero]; try exact rfl)); (focus rfl); simp only [Act.put, List.setIfInBounds_toArray, List.set_cons_succ, List.set_cons_zero]))
 all_goals refine Mix.grp_nil ?_
 all_goals first | ((apply Mix.op_last; (focus (simp only [List.getElem?_toArray, List.getElem?_cons_succ, List.getElem?_cons_zero]; try exact rfl)); (focus rfl)); go_simp; refine (in_any _ _ _ _).mono ?_; rintro e w' ⟨rfl, rfl⟩; simp only [Act.put, List.setIfInBounds_toArray, List.set_cons_succ, List.set_cons_zero]) | (apply Mix.op_last_skip; (focus (simp only [List.getElem?_toArray, List.getElem?_cons_succ, List.getElem?_cons_zero]; try exact rfl)); (focus rfl); simp only [Act.put, List.setIfInBounds_toArray, List.set_cons_succ, List.set_cons_zero])
 all_goals refine Mix.grps_last (fun w' => w' = _) rfl ?_
 repeat' (first | (apply Mix.grp_bool; (focus (simp only [List.getElem?_toArray, List.getElem?_cons_succ, List.getElem?_cons_zero]; try exact rfl)); (focus rfl); (focus (intro w'; go_simp; try with_reducible exact rfl)); all_goals (intro hb; first | (cases hb; done) | skip); all_goals simp only [Act.put, List.setIfInBounds_toArray, List.set_cons_succ, List.set_cons_zero]) | (apply Mix.grp_pure; (focus (simp only [List.getElem?_toArray, List.getElem?_cons_succ, List.getElem?_cons_zero]; try exact rfl)); (focus rfl); (focus (intro w'; go_simp; try with_reducible exact rfl)); simp only [Act.put, List.setIfInBounds_toArray, List.set_cons_succ, List.set_cons_zero]) | (apply Mix.grp_read; (focus (simp only [List.getElem?_toArray, List.getElem?_cons_succ, List.getElem?_cons_zero]; try exact rfl)); (focus rfl); (focus (intro w' hC; (first | subst hC | (repeat (obtain ⟨_, hC⟩ := hC))); go_simp; try with_reducible exact rfl)); simp only [Act.put, List.setIfInBounds_toArray, List.set_cons_succ, List.set_cons_zero]) | (apply Mix.grp_skip0; (focus (simp only [List.getElem?_toArray, List.getElem?_cons_succ, List.getElem?_cons_zero]; try exact rfl)); (focus rfl); simp only [Act.put, List.setIfInBounds_toArray, List.set_cons_succ, List.set_cons_zero]) | (apply Mix.grp_skip1; (focus (simp only [List.getElem?_toArray, List.getElem?_cons_succ, List.getElem?_cons_zero]; try exact rfl)); (focus rfl); simp only [Act.put, List.setIfInBounds_toArray, List.set_cons_succ, List.set_cons_zero]))
 all_goals refine Mix.grp_nil (Mix.grps_nil ?_)
 all_goals go_wp2
 all_goals
  go_ret
  refine ⟨?_, (by go_grown)⟩
  refine congrArg (fun b => Ending.returned (Value.bool b)) (?_ : _ = bodyB _ _)
  clear HM HR HB HI
  simp_all [bodyB, zeroRf, rf_beq]
set_option maxHeartbeats 2000000 in
theorem formed_take (n : Int) (p : Po) (w : World) (h1 : manyB n = true) (h2 : isRefB n p.me = true) (h3 : inB p.tick 0 100000 = true) (h4 : inB p.owner 1 40 = true) (h5 : inB p.amount 1 1000000 = true) (hk : p.kind = 3) : Calls Tryz.prog 81 #[.int .i64 n, p.val] w fun e w' => e = .returned (.bool (bodyB n p)) ∧ Below w.heap.size w w' := by
 have h35 : n = 3 ∨ n = 5 := by unfold manyB at h1; simpa using h1
 have hn : -9223372036854775807 ≤ n ∧ n ≤ 9223372036854775807 := by omega
 have hn0 : (n == 0) = false := by simp; omega
 have hn1 : ¬ n = 0 := by omega
 obtain ⟨re, nu, ti, ki, cs, ow, ⟨ofr, ofn⟩, ⟨byr, byn⟩, am⟩ := p
 simp only at hk h2 h3 h4 h5
 subst hk
 have HM := hid (isMany_any n)
 have HR := hid (refOf_any ⟨re, nu, ti, 3, cs, ow, ⟨ofr, ofn⟩, ⟨byr, byn⟩, am⟩)
 have HB := hid (bare_any ⟨re, nu, ti, 3, cs, ow, ⟨ofr, ofn⟩, ⟨byr, byn⟩, am⟩)
 have HI := hid (isRef_any n hn)
 unfold Po.me at *
 simp only [Po.val, Po.bare, Po.cells, Rf.val, Rf.cells] at *
 go_enter Tryz.func81, Tryz.ntmps81
 go_wp2_with (first
  | (go_at_call 75; refine (HM.out _).mono ?_; rintro e w' ⟨rfl, rfl⟩)
  | (go_at_call 106; refine (HR.out _).mono ?_; rintro e w' ⟨rfl, rfl⟩)
  | (go_at_call 175; refine (HB.out _).mono ?_; rintro e w' ⟨rfl, rfl⟩)
  | (go_at_call 83; refine (in_any _ _ _ _).mono ?_; rintro e w' ⟨rfl, rfl⟩)
  | (go_at_call 174; refine (HI.out ⟨_, _⟩ _).mono ?_; rintro e w' ⟨rfl, rfl⟩))
 all_goals
  go_ret
  refine ⟨?_, (by go_grown)⟩
  refine congrArg (fun b => Ending.returned (Value.bool b)) (?_ : _ = bodyB _ _)
  clear HM HR HB HI
  simp_all [bodyB, zeroRf, rf_beq]
set_option maxHeartbeats 2000000 in
theorem formed_waive (n : Int) (p : Po) (w : World) (h1 : manyB n = true) (h2 : isRefB n p.me = true) (h3 : inB p.tick 0 100000 = true) (h4 : inB p.owner 1 40 = true) (h5 : inB p.amount 1 1000000 = true) (hk : p.kind = 5) : Calls Tryz.prog 81 #[.int .i64 n, p.val] w fun e w' => e = .returned (.bool (bodyB n p)) ∧ Below w.heap.size w w' := by
 have h35 : n = 3 ∨ n = 5 := by unfold manyB at h1; simpa using h1
 have hn : -9223372036854775807 ≤ n ∧ n ≤ 9223372036854775807 := by omega
 have hn0 : (n == 0) = false := by simp; omega
 have hn1 : ¬ n = 0 := by omega
 obtain ⟨re, nu, ti, ki, cs, ow, ⟨ofr, ofn⟩, ⟨byr, byn⟩, am⟩ := p
 simp only at hk h2 h3 h4 h5
 subst hk
 have HM := hid (isMany_any n)
 have HR := hid (refOf_any ⟨re, nu, ti, 5, cs, ow, ⟨ofr, ofn⟩, ⟨byr, byn⟩, am⟩)
 have HB := hid (bare_any ⟨re, nu, ti, 5, cs, ow, ⟨ofr, ofn⟩, ⟨byr, byn⟩, am⟩)
 have HI := hid (isRef_any n hn)
 unfold Po.me at *
 simp only [Po.val, Po.bare, Po.cells, Rf.val, Rf.cells] at *
 go_enter Tryz.func81, Tryz.ntmps81
 go_wp2_with (first
  | (go_at_call 75; refine (HM.out _).mono ?_; rintro e w' ⟨rfl, rfl⟩)
  | (go_at_call 106; refine (HR.out _).mono ?_; rintro e w' ⟨rfl, rfl⟩)
  | (go_at_call 175; refine (HB.out _).mono ?_; rintro e w' ⟨rfl, rfl⟩)
  | (go_at_call 83; refine (in_any _ _ _ _).mono ?_; rintro e w' ⟨rfl, rfl⟩)
  | (go_at_call 174; refine (HI.out ⟨_, _⟩ _).mono ?_; rintro e w' ⟨rfl, rfl⟩))
 all_goals
  go_ret
  refine ⟨?_, (by go_grown)⟩
  refine congrArg (fun b => Ending.returned (Value.bool b)) (?_ : _ = bodyB _ _)
  clear HM HR HB HI
  simp_all [bodyB, zeroRf, rf_beq]
end Go.Proofs.YtocabeobfbhajaaGreatDoor
end
