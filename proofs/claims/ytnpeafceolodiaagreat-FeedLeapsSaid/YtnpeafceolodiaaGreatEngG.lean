/- The engine, part G: numbers, comparisons. -/
import Derived.Test.YtnpeafceolodiaaGreatEngF
import Derived.Laws.Pointers
import Derived.WideLaws
namespace Go.Eng
open Go.RowKit

section
variable {P : Program} {E : Env} {Mu : Nat → Prop} {nt : Nat} {S : St} {c : Cx} {a : Act} {o : Oper}

theorem okInt_tmod {k : IntKind} {x y : Int} (hx : okInt k x) : okInt k (x.tmod y) := by
  have hx' : k.min ≤ x ∧ x ≤ k.max := by
    unfold okInt IntKind.wrap at hx; unfold IntKind.min IntKind.max
    cases k <;> simp [IntKind.signed, IntKind.bits] at hx ⊢ <;> (try split at hx) <;> omega
  have h1 : (x.tmod y).natAbs ≤ x.natAbs := by
    rw [Int.natAbs_tmod]; exact Nat.mod_le _ _
  have h2 : 0 ≤ x → 0 ≤ x.tmod y := fun h => Int.tmod_nonneg _ h
  have h3 : x ≤ 0 → x.tmod y ≤ 0 := fun h => by
    have := Int.tmod_nonneg (a := -x) y (by omega)
    rw [Int.neg_tmod] at this; omega
  unfold okInt IntKind.wrap
  unfold IntKind.min IntKind.max at hx'
  cases k <;> simp [IntKind.signed, IntKind.bits] at hx' ⊢ <;> (try split) <;> omega

theorem okInt_fdiv {k : IntKind} {x : Int} (n : Nat) (hx : okInt k x) : okInt k (x.fdiv (2 ^ n)) := by
  have hp : (0 : Int) < 2 ^ n := Int.pow_pos (by decide)
  have hx' : k.min ≤ x ∧ x ≤ k.max := by
    unfold okInt IntKind.wrap at hx; unfold IntKind.min IntKind.max
    cases k <;> simp [IntKind.signed, IntKind.bits] at hx ⊢ <;> (try split at hx) <;> omega
  rw [Int.fdiv_eq_ediv_of_nonneg _ (Int.le_of_lt hp)]
  have h1 : 0 ≤ x → 0 ≤ x / 2 ^ n ∧ x / 2 ^ n ≤ x := fun h => ⟨Int.ediv_nonneg h (Int.le_of_lt hp), Int.ediv_le_self _ h⟩
  have h2 : x < 0 → x ≤ x / 2 ^ n ∧ x / 2 ^ n < 0 := fun h => ⟨by
    rw [Int.le_ediv_iff_mul_le hp]
    have h3 : 0 ≤ (-x) * ((2 : Int) ^ n - 1) := Int.mul_nonneg (by omega) (by omega)
    rw [Int.mul_sub, Int.neg_mul, Int.mul_one] at h3
    omega, Int.ediv_neg_of_neg_of_pos h hp⟩
  unfold okInt IntKind.wrap
  unfold IntKind.min IntKind.max at hx'
  by_cases h : 0 ≤ x
  · obtain ⟨a1, a2⟩ := h1 h
    cases k <;> simp [IntKind.signed, IntKind.bits] at hx' ⊢ <;> (try split) <;> omega
  · obtain ⟨a1, a2⟩ := h2 (by omega)
    cases k <;> simp [IntKind.signed, IntKind.bits] at hx' ⊢ <;> (try split) <;> omega

theorem intOp_sound {op : BinOp} (hs : isShift op = false) {T : TypeId} {x y : Operand} {k : IntKind} {p q : Int} (hp : okInt k p) {v : V} (hr : (intOp op k p q).run S = some v) (w : World) :
    ∃ z, (do eqGuard op T x y (.int k p) (.int k q); binOp op T (.int k p) (.int k q) : Sem Value).run P w = .ok z w ∧ TR c v z := by
  have heq : (eqGuard op T x y (.int k p) (.int k q)).run P w = .ok () w := by cases op <;> simp [eqGuard]
  simp only [Sem.run_bind, heq, Result.andThen_ok]
  cases op <;> simp [isShift] at hs <;> simp only [intOp, run_ret, run_need_some, Option.some.injEq] at hr
  case quo =>
    obtain ⟨h0, rfl⟩ := hr
    have h0' : q ≠ 0 := by simpa using h0
    exact ⟨_, by simp [Go.binOp, Op.intDiv, h0'], rfl, okInt_wrap _ _⟩
  case rem =>
    obtain ⟨h0, rfl⟩ := hr
    have h0' : q ≠ 0 := by simpa using h0
    exact ⟨_, by simp [Go.binOp, Op.intDiv, h0'], rfl, okInt_tmod hp⟩
  case add => subst hr; exact ⟨_, by simp [Go.binOp, Op.intArith], rfl, okInt_wrap _ _⟩
  case sub => subst hr; exact ⟨_, by simp [Go.binOp, Op.intArith], rfl, okInt_wrap _ _⟩
  case mul => subst hr; exact ⟨_, by simp [Go.binOp, Op.intArith], rfl, okInt_wrap _ _⟩
  case and => subst hr; exact ⟨_, by simp only [Go.binOp, ne_eq, not_true, if_false, Op.intBits]; rfl, rfl, okInt_wrap _ _⟩
  case or => subst hr; exact ⟨_, by simp only [Go.binOp, ne_eq, not_true, if_false, Op.intBits]; rfl, rfl, okInt_wrap _ _⟩
  case xor => subst hr; exact ⟨_, by simp only [Go.binOp, ne_eq, not_true, if_false, Op.intBits]; rfl, rfl, okInt_wrap _ _⟩
  case andNot => subst hr; exact ⟨_, by simp only [Go.binOp, ne_eq, not_true, if_false, Op.intBits]; rfl, rfl, okInt_wrap _ _⟩
  all_goals
    subst hr
    exact ⟨_, by simp only [Go.binOp, ne_eq, not_true, if_false, Op.intCmp]; rfl, by simp [TR, TR1, CR]⟩

theorem shiftOp_sound {op : BinOp} (hs : isShift op = true) {T : TypeId} {x y : Operand} {k k' : IntKind} {p q : Int} (hp : okInt k p) {v : V} (hr : (shiftOp op k p q).run S = some v) (w : World) :
    ∃ z, (do eqGuard op T x y (.int k p) (.int k' q); binOp op T (.int k p) (.int k' q) : Sem Value).run P w = .ok z w ∧ TR c v z := by
  simp only [shiftOp, run_need_some] at hr
  obtain ⟨h0, hr⟩ := hr
  have h0' : ¬ q < 0 := by simp at h0; omega
  cases op <;> simp [isShift] at hs <;> simp only [run_ret, Option.some.injEq] at hr <;> subst hr
  · exact ⟨_, by simp [eqGuard, Go.binOp, Op.shift, h0'], rfl, okInt_wrap _ _⟩
  · exact ⟨_, by simp [eqGuard, Go.binOp, Op.shift, h0'], rfl, okInt_fdiv _ hp⟩

/-- How deep a type is. -/
def Ty.deep : Ty → Nat
  | .prod a b => max (a.deep + 1) b.deep
  | .arr _ _ => 1
  | _ => 0

theorem part_one (T : TypeId) {tab : TypeId → Option Ty} {t : Ty} (hk : TyOk P tab T t) (xs : Array Value) (off : Nat) (cs : List Value) (hl : cs.length = t.size) (hc : (xs.toList.drop off).take t.size = cs) (w : World) :
    (part T xs off).run P w = .ok (if t.isAgg then .agg cs.toArray else cs.getD 0 Go.undef) w := by
  unfold part
  rw [Sem.run_bind, hk.isAgg_run]
  simp only [Result.andThen_ok]
  by_cases ha : t.isAgg = true
  · simp only [ha, if_true, Sem.run_bind, hk.size_run, Result.andThen_ok, Sem.run_pure, Result.ok.injEq, Value.agg.injEq, and_true]
    apply Array.ext'
    simp only [Array.toList_extract, List.extract_eq_take_drop]
    rw [← hc]
    simp
  · have h1 : t.size = 1 := by cases t <;> simp_all [Ty.isAgg, Ty.size]
    rw [h1] at hl hc
    obtain ⟨x, rfl⟩ := List.length_eq_one_iff.1 hl
    have : xs[off]? = some x := by
      have : ((xs.toList.drop off).take 1)[0]? = some x := by rw [hc]; rfl
      have := getElem?_cut this
      simpa using this
    simp [ha, this]

theorem beq_bytes (a b : ByteArray) : (a == b) = (a.toList == b.toList) := beq_toListBytes a b

theorem forIn_list_all {P : Program} (f : Nat → Sem Bool) (g : Nat → Bool) (w : World) : ∀ (l : List Nat), (∀ i ∈ l, (f i).run P w = .ok (g i) w) →
    ((forIn l ((none, ()) : Option Bool × Unit) fun i _ => do
      let b ← f i
      if (!b) = true then pure (ForInStep.done (some false, ())) else pure (ForInStep.yield (none, ())) : Sem (Option Bool × Unit))).run P w =
      .ok (if l.all g then none else some false, ()) w
  | [], _ => by simp
  | i :: l, h => by
    have h0 := h i (by simp)
    have ih := forIn_list_all f g w l (fun j hj => h j (by simp [hj]))
    simp only [List.forIn_cons, Sem.run_bind, h0, Result.andThen_ok]
    cases hg : g i
    · simp [hg]
    · simpa [hg] using ih

theorem ints_beq {k : IntKind} : ∀ {l m : List Int}, l.length = m.length → ((List.range l.length).all fun i => (l.getD i 0) == (m.getD i 0)) = (l == m)
  | [], [], _ => rfl
  | x :: l, y :: m, h => by
      have ih := ints_beq (k := k) (l := l) (m := m) (by simpa using h)
      rw [List.length_cons, List.range_succ_eq_map, List.all_cons, List.all_map]
      simp only [List.getD_cons_zero]
      have : ((List.range l.length).all ((fun i => (x :: l).getD i 0 == (y :: m).getD i 0) ∘ Nat.succ)) = (l == m) := by
        rw [← ih]; rfl
      rw [this]
      rfl
  | [], _ :: _, h => by simp at h
  | _ :: _, [], h => by simp at h

/-- The value that cells make. -/
def packed (t : Ty) (cs : List Value) : Value := if t.isAgg then .agg cs.toArray else cs.getD 0 Go.undef

theorem equalIn_int {P : Program} {T : TypeId} {k : IntKind} (h : P.underlying T = some (.int k)) (d : Nat) (x y : Int) (w : World) : (Op.equalIn (d + 1) T (.int k x) (.int k y)).run P w = .ok (x == y) w := run_equalIn_int w d T k k x y h

theorem equal_arr {P : Program} {T e : TypeId} {n : Nat} {k : IntKind} {i : TypeInfo} (h1 : P.underlying T = some (.array n e)) (h2 : P.underlying e = some (.int k)) (h3 : P.info? e = some i) (h4 : i.size = 1) (d : Nat)
    {l m : List Int} (hl : l.length = n) (hm : m.length = n) (w : World) : (Op.equalIn (d + 2) T (.agg (l.map (Value.int k)).toArray) (.agg (m.map (Value.int k)).toArray)).run P w = .ok (l == m) w := by
  have hint := fun x y => equalIn_int (P := P) h2 d x y w
  obtain ⟨D, hD⟩ : ∃ D, D = d + 1 := ⟨_, rfl⟩
  rw [← hD] at hint
  rw [show d + 2 = D + 1 by omega]
  simp only [Op.equalIn, Sem.run_bind, run_underlying h1, Result.andThen_ok, sizeOf, typeInfo, run_program, h3, Sem.run_pure, h4, Nat.mul_one]
  have hagg : (Go.isAgg e).run P w = .ok false w := by simp [Go.isAgg, run_underlying h2]
  have hpart : ∀ (z : List Int) j, j < z.length → (part e (z.map (Value.int k)).toArray j).run P w = .ok (.int k (z.getD j 0)) w := fun z j hj => by
    unfold part
    simp [Sem.run_bind, hagg, hj]
  have key := forIn_list_all (P := P) (fun j => do
      let x ← part e (l.map (Value.int k)).toArray j
      let y ← part e (m.map (Value.int k)).toArray j
      Op.equalIn D e x y) (fun j => l.getD j 0 == m.getD j 0) w (List.range n) (fun j hj => by
        have hj' := List.mem_range.1 hj
        simp only [Sem.run_bind, hpart l j (by omega), hpart m j (by omega), Result.andThen_ok, hint])
  rw [Std.Legacy.Range.forIn_eq_forIn_range']
  simp only [Std.Legacy.Range.size] at key ⊢
  have hr : List.range' 0 ((n - 0 + 1 - 1) / 1) 1 = List.range n := by simp [List.range_eq_range']
  rw [hr]
  simp only [bind_assoc] at key ⊢
  rw [key]
  rw [← ints_beq (k := k) (hl.trans hm.symm), hl]
  cases (List.range n).all fun i => l.getD i 0 == m.getD i 0 <;> simp
theorem packed_agg {t : Ty} (h : t.isAgg = true) (cs : List Value) : packed t cs = .agg cs.toArray := by simp [packed, h]

theorem Rep.packed_arr {R : Nat → Nat → Prop} {w : World} {n : Nat} {k : IntKind} {l : List Int} {cs : List Value} (h : Rep R w (.arr n k) l cs) : l.length = n ∧ packed (.arr n k) cs = .agg (l.map (Value.int k)).toArray := by
  simp only [Rep, RepA] at h
  obtain ⟨e, _, rfl⟩ := h
  exact ⟨e, rfl⟩

def EqA (P : Program) (tab : TypeId → Option Ty) (R R' : Nat → Nat → Prop) (w1 w2 w : World) (t : Ty) : Prop :=
  ∀ (T : TypeId) (x y : t.den) (cs ds : List Value) (d : Nat), tab T = some t → t.flat = true → Rep R w1 t x cs → Rep R' w2 t y ds → t.deep < d →
    (Op.equalIn (d + 1) T (packed t cs) (packed t ds)).run P w = .ok (t.beq' x y) w
def EqB (P : Program) (tab : TypeId → Option Ty) (R R' : Nat → Nat → Prop) (w1 w2 w : World) (t : Ty) : Prop :=
  ∀ (fs : List Field) (off : Nat) (x y : t.den) (cs ds : List Value) (xs ys : Array Value) (d : Nat), Flds tab fs t off → t.flat = true → xs.toList.drop off = cs → ys.toList.drop off = ds → Rep R w1 t x cs → Rep R' w2 t y ds → t.deep < d →
    (Op.eqFields d xs ys fs).run P w = .ok (t.beq' x y) w

theorem EqA_of_B {P : Program} {tab : TypeId → Option Ty} {R R' : Nat → Nat → Prop} {w1 w2 w : World} (hT : TabOk P tab) {t : Ty} (ht : t = .unit ∨ ∃ a b, t = .prod a b) (h : EqB P tab R R' w1 w2 w t) : EqA P tab R R' w1 w2 w t := by
  intro T x y cs ds d htab hf h1 h2 hd
  have hdesc := (hT T _ htab).desc
  have hd' : ∃ fs, P.underlying T = some (.struct fs) ∧ P.stoodInHeld T = false ∧ Flds tab fs.toList t 0 := by
    rcases ht with rfl | ⟨a, b, rfl⟩ <;> exact hdesc
  obtain ⟨fs, hu, hs, hfl⟩ := hd'
  have hfo : P.fieldsOf T = fs := by simp [Program.fieldsOf, hu]
  have ha : t.isAgg = true := by rcases ht with rfl | ⟨a, b, rfl⟩ <;> rfl
  rw [packed_agg ha, packed_agg ha, run_equalIn_struct w d T _ _ (by rw [hfo]; exact hu) hs, hfo]
  exact h fs.toList 0 x y cs ds _ _ d hfl hf (by simp) (by simp) h1 h2 hd

theorem equal_both (hT : TabOk P E.tab) {R R' : Nat → Nat → Prop} {w1 w2 : World} (w : World) : ∀ (t : Ty), EqA P E.tab R R' w1 w2 w t ∧ EqB P E.tab R R' w1 w2 w t := by
  intro t
  induction t with
  | unit =>
    have hB : EqB P E.tab R R' w1 w2 w .unit := by
      intro fs off x y cs ds xs ys d hfl hf e1 e2 h1 h2 hd
      cases fs with
      | cons f l => exact hfl.elim
      | nil => simp [Op.eqFields, Ty.beq']
    exact ⟨EqA_of_B hT (.inl rfl) hB, hB⟩
  | int k =>
    refine ⟨?_, by intro fs off x y cs ds xs ys d hfl; cases fs <;> exact hfl.elim⟩
    intro T x y cs ds d ht hf h1 h2 hd
    simp only [Rep] at h1 h2
    obtain ⟨rfl, _⟩ := h1
    obtain ⟨rfl, _⟩ := h2
    exact equalIn_int (hT T _ ht).desc d x y w
  | bool =>
    refine ⟨?_, by intro fs off x y cs ds xs ys d hfl; cases fs <;> exact hfl.elim⟩
    intro T x y cs ds d ht hf h1 h2 hd
    simp only [Rep] at h1 h2
    subst h1; subst h2
    exact run_equalIn_bool' w d T x y (hT T _ ht).desc
  | str =>
    refine ⟨?_, by intro fs off x y cs ds xs ys d hfl; cases fs <;> exact hfl.elim⟩
    intro T x y cs ds d ht hf h1 h2 hd
    simp only [Rep] at h1 h2
    obtain ⟨rfl, _⟩ := h1
    obtain ⟨rfl, _⟩ := h2
    exact run_equalIn_string w d T x y (hT T _ ht).desc
  | arr n k =>
    refine ⟨?_, by intro fs off x y cs ds xs ys d hfl; cases fs <;> exact hfl.elim⟩
    intro T x y cs ds d ht hf h1 h2 hd
    obtain ⟨e, i, q1, q2, q3, q4⟩ := (hT T _ ht).desc
    obtain ⟨l1, e1⟩ := Rep.packed_arr h1
    obtain ⟨l2, e2⟩ := Rep.packed_arr h2
    rw [e1, e2]
    obtain ⟨d', rfl⟩ : ∃ d', d = d' + 1 := ⟨d - 1, by simp [Ty.deep] at hd; omega⟩
    exact equal_arr q1 q2 q3 q4 d' l1 l2 w
  | sl => exact ⟨by intro T x y cs ds d ht hf; simp [Ty.flat] at hf, by intro fs off x y cs ds xs ys d hfl; cases fs <;> exact hfl.elim⟩
  | opq => exact ⟨(by intro T x; exact nomatch x), (by intro fs off x; exact nomatch x)⟩
  | ifc => exact ⟨(by intro T x; exact nomatch x), (by intro fs off x; exact nomatch x)⟩
  | prod a b iha ihb =>
    have hB : EqB P E.tab R R' w1 w2 w (.prod a b) := by
      intro fs off x y cs ds xs ys d hfl hf e1 e2 h1 h2 hd
      cases fs with
      | nil => exact hfl.elim
      | cons f fs =>
        obtain ⟨rfl, hn, hta, hfl⟩ := hfl
        simp [Ty.flat] at hf
        simp only [Rep] at h1 h2
        obtain ⟨c1, c2, rfl, p1, p2⟩ := h1
        obtain ⟨d1, d2, rfl, q1, q2⟩ := h2
        have lc := Rep.length _ _ _ p1
        have ld := Rep.length _ _ _ q1
        have hk := hT _ _ hta
        have pa := part_one f.type hk xs f.offset c1 lc (by rw [e1, ← lc]; simp) w
        have pb := part_one f.type hk ys f.offset d1 ld (by rw [e2, ← ld]; simp) w
        obtain ⟨d', rfl⟩ : ∃ d', d = d' + 1 := ⟨d - 1, by simp [Ty.deep] at hd; omega⟩
        have ea := iha.1 f.type x.1 y.1 c1 d1 d' hta hf.1 p1 q1 (by simp [Ty.deep] at hd; omega)
        have eb := ihb.2 fs (f.offset + a.size) x.2 y.2 c2 d2 xs ys (d' + 1) hfl hf.2 (by rw [← List.drop_drop, e1, ← lc]; simp) (by rw [← List.drop_drop, e2, ← ld]; simp) p2 q2 (by simp [Ty.deep] at hd; omega)
        simp only [packed] at ea
        simp only [Op.eqFields, ne_eq, hn, not_false_eq_true, if_true, Sem.run_bind, pa, pb, Result.andThen_ok, ea]
        cases hq : a.beq' x.1 y.1
        · simp [Ty.beq', hq]
        · simp [Ty.beq', hq, eb]
    exact ⟨EqA_of_B hT (.inr ⟨a, b, rfl⟩) hB, hB⟩

theorem gather_flat {c : Cx} : ∀ (t : Ty) (v : V) (x : t.den) (cs : List Value), t.flat = true → gather t v = some x → CR c v cs → Rep c.R c.w t x cs
  | .unit, v, x, cs, _, hg, h => by
      cases v <;> try (simp [gather] at hg; done)
      rename_i vs
      cases vs <;> try (simp [gather] at hg; done)
      simpa [CR, CRs, Rep] using h
  | .int k, v, x, cs, _, hg, h => by
      cases v <;> try (simp [gather] at hg; done)
      simp [gather] at hg
      obtain ⟨rfl, hg⟩ := hg
      cases hg
      simpa [CR, Rep] using h
  | .bool, v, x, cs, _, hg, h => by
      cases v <;> try (simp [gather] at hg; done)
      simp [gather] at hg; cases hg
      simpa [CR, Rep] using h
  | .str, v, x, cs, _, hg, h => by
      cases v <;> try (simp [gather] at hg; done)
      simp [gather] at hg; cases hg
      simpa [CR, Rep] using h
  | .arr n k, v, x, cs, _, hg, h => by
      cases v <;> try (simp [gather] at hg; done)
      simp [gather] at hg
      obtain ⟨⟨rfl, rfl⟩, hg⟩ := hg
      cases hg
      simpa [CR, Rep] using h
  | .sl _ _, _, _, _, hf, _, _ => by simp [Ty.flat] at hf
  | .prod a b, v, x, cs, hf, hg, h => by
      cases v <;> try (simp [gather] at hg; done)
      rename_i vs
      cases vs <;> try (simp [gather] at hg; done)
      rename_i v vs
      simp only [gather, Option.bind_eq_some_iff] at hg
      obtain ⟨y, h1, h2⟩ := hg
      cases hz : gather b (.node vs) with
      | none => rw [hz] at h2; cases h2
      | some z =>
        simp [hz] at h2
        cases h2
        simp [Ty.flat] at hf
        simp only [CR, CRs] at h
        obtain ⟨c1, c2, rfl, q1, q2⟩ := h
        exact ⟨c1, c2, rfl, gather_flat a _ _ _ hf.1 h1 q1, gather_flat b _ _ _ hf.2 hz (by simpa only [CR] using q2)⟩
  | .opq, _, x, _, _, _, _ => nomatch x
  | .ifc, _, x, _, _, _, _ => nomatch x

theorem TR1_of_TR {v : V} {x : Value} (h : TR c v x) (h1 : v ≠ .undef) (h2 : v ≠ .skip) (h3 : ∀ vs, v ≠ .tup vs) : TR1 c v x := by
  cases v
  case undef => exact (h1 rfl).elim
  case skip => exact (h2 rfl).elim
  case tup vs => exact (h3 vs rfl).elim
  all_goals exact h

theorem packed_of {t : Ty} {v : V} {y : t.den} {x : Value} (hv : (∃ vs, v = .node vs) ∨ ∃ n k l, v = .arr n k l) (hg : gather t v = some y) (h : TR c v x) : ∃ cs, x = packed t cs ∧ CR c v cs := by
  rcases hv with ⟨vs, rfl⟩ | ⟨n, k, l, rfl⟩
  · obtain ⟨cs, rfl, hc⟩ := h
    refine ⟨cs.toList, ?_, by simpa only [CR] using hc⟩
    cases t <;> first | (simp [gather] at hg; done) | rfl
  · obtain ⟨cs, rfl, hc⟩ := h
    refine ⟨cs.toList, ?_, hc⟩
    cases t <;> first | (simp [gather] at hg; done) | rfl

theorem eqOp_some {op : BinOp} {b : Bool} {v : V} (h : (eqOp op b).run S = some v) : (op = .eql ∧ v = .bool b) ∨ (op = .neq ∧ v = .bool !b) := by
  cases op <;> simp [eqOp] at h <;> simp [h]

theorem binV_sound (hT : TabOk P E.tab) (hdeep : ∀ T t, E.tab T = some t → t.deep < 9000) {op : BinOp} {T : TypeId} {x y : Operand} {u v z : V} {p q : Value} (hp : TR c u p) (hq : TR c v q) (hr : (binV E op T u v).run S = some z) (w : World) :
    ∃ r, (do eqGuard op T x y p q; binOp op T p q : Sem Value).run P w = .ok r w ∧ TR c z r := by
  have big : ∀ (hv : (∃ vs, u = .node vs) ∨ ∃ n k l, u = .arr n k l) (hv' : (∃ vs, v = .node vs) ∨ ∃ n k l, v = .arr n k l) {t : Ty} (ht : E.tab T = some t) {a b : t.den} (ha : gather t u = some a) (hb : gather t v = some b) (hf : t.flat = true)
      (he : (eqOp op (t.beq' a b)).run S = some z), ∃ r, (do eqGuard op T x y p q; binOp op T p q : Sem Value).run P w = .ok r w ∧ TR c z r := by
    intro hv hv' t ht a b ha hb hf he
    obtain ⟨cs, rfl, h1⟩ := packed_of hv ha hp
    obtain ⟨ds, rfl, h2⟩ := packed_of hv' hb hq
    have hagg : t.isAgg = true := by
      rcases hv with ⟨vs, rfl⟩ | ⟨n, k, l, rfl⟩ <;> cases t <;> first | (simp [gather] at ha; done) | rfl
    have hk := hT T t ht
    have heq := ((equal_both hT (R := c.R) (R' := c.R) (w1 := c.w) (w2 := c.w) w t).1 T a b cs ds 9999 ht hf (gather_flat t _ _ _ hf ha h1) (gather_flat t _ _ _ hf hb h2) (by have := hdeep T t ht; omega))
    rw [packed_agg hagg, packed_agg hagg] at heq ⊢
    have hgd : (eqGuard op T x y (.agg cs.toArray) (.agg ds.toArray)).run P w = .ok () w := run_eqGuard_agg w op T x y _ _ (hk.eqg hf)
    rcases eqOp_some he with ⟨rfl, rfl⟩ | ⟨rfl, rfl⟩
    · refine ⟨.bool (t.beq' a b), ?_, by simp [TR, TR1, CR]⟩
      simp only [Sem.run_bind, hgd, Result.andThen_ok]
      simp only [Go.binOp, Op.equal, Op.maxDepth, Sem.run_bind, heq, Result.andThen_ok, Sem.run_pure]
    · refine ⟨.bool !(t.beq' a b), ?_, by simp [TR, TR1, CR]⟩
      simp only [Sem.run_bind, hgd, Result.andThen_ok]
      simp only [Go.binOp, Op.equal, Op.maxDepth, Sem.run_bind, heq, Result.andThen_ok, Sem.run_pure]
  unfold binV at hr
  split at hr
  · rename_i k n k' n'
    obtain ⟨rfl, o1⟩ := hp.int
    obtain ⟨rfl, o2⟩ := hq.int
    cases hs : isShift op
    · simp only [hs] at hr
      by_cases e : k' = k
      · subst e
        simp at hr
        exact intOp_sound hs o1 hr w
      · simp [e] at hr
    · simp only [hs, if_true] at hr
      exact shiftOp_sound hs o1 hr w
  · rename_i s s'
    obtain ⟨rfl, o1⟩ := hp.str
    obtain ⟨rfl, o2⟩ := hq.str
    cases op <;> simp only [strOp, run_fail, reduceCtorEq, run_need_some, run_ret, Option.some.injEq] at hr
    · obtain ⟨h1, rfl⟩ := hr
      simp at h1
      refine ⟨.string (s ++ s'), ?_, ?_⟩
      · have : ¬ (((s.size + s'.size : Nat) : Int) > IntKind.i64.max) := by
          have : IntKind.i64.max = 9223372036854775807 := by decide
          unfold maxLen at h1; omega
        simp [eqGuard, Go.binOp, Op.stringOp]
        simpa using this
      · refine ⟨rfl, ?_⟩
        simpa [ByteArray.size_append] using h1
    · subst hr; exact ⟨_, by simp [eqGuard, Go.binOp, Op.stringOp]; rfl, by simp [TR, TR1, CR]⟩
    · subst hr; exact ⟨_, by simp [eqGuard, Go.binOp, Op.stringOp]; rfl, by simp [TR, TR1, CR]⟩
  · rename_i b b'
    obtain rfl := hp.bool
    obtain rfl := hq.bool
    split at hr
    · rename_i ht
      have hu : P.underlying T = some .bool := (hT T _ ht).desc
      rcases eqOp_some hr with ⟨rfl, rfl⟩ | ⟨rfl, rfl⟩
      · exact ⟨.bool (b == b'), by simp [eqGuard, run_eql_bool w T b b' hu], by simp [TR, TR1, CR]⟩
      · exact ⟨.bool (!(b == b')), by simp [eqGuard, run_neq_bool w T b b' hu], by simp [TR, TR1, CR]⟩
    · simp at hr
  · split at hr
    · rename_i ht
      obtain rfl : p = .pointer none := by simpa [TR, TR1, CR] using hp
      obtain rfl : q = .pointer none := by simpa [TR, TR1, CR] using hq
      obtain ⟨e, hu⟩ : ∃ e, P.underlying T = some (.pointer e) := (hT T _ ht).desc
      have hu' : P.underlying T = some (.pointer (P.pointee T)) := by simp [Program.pointee, hu]
      rcases eqOp_some hr with ⟨rfl, rfl⟩ | ⟨rfl, rfl⟩
      · exact ⟨.bool true, by simp [eqGuard, run_eql_pointer_nil w T none hu'], by simp [TR, TR1, CR]⟩
      · exact ⟨.bool false, by simp [eqGuard, run_neq_pointer_nil w T none hu'], by simp [TR, TR1, CR]⟩
    · simp at hr
  · split at hr
    · rename_i ht
      obtain ⟨ad, rfl⟩ := hp.ptr.pointer
      obtain rfl : q = .pointer none := by simpa [TR, TR1, CR] using hq
      obtain ⟨e, hu⟩ : ∃ e, P.underlying T = some (.pointer e) := (hT T _ ht).desc
      have hu' : P.underlying T = some (.pointer (P.pointee T)) := by simp [Program.pointee, hu]
      rcases eqOp_some hr with ⟨rfl, rfl⟩ | ⟨rfl, rfl⟩
      · exact ⟨.bool false, by simp [eqGuard, run_eql_pointer_nil w T (some ad) hu'], by simp [TR, TR1, CR]⟩
      · exact ⟨.bool true, by simp [eqGuard, run_neq_pointer_nil w T (some ad) hu'], by simp [TR, TR1, CR]⟩
    · simp at hr
  · split at hr
    · rename_i ht
      simp only [TR, TR1, CR] at hp
      obtain ⟨y', e', _⟩ := hp
      cases e'
      obtain rfl : q = .nilIface := by simpa [TR, TR1, CR] using hq
      obtain ⟨e, hu⟩ : ∃ e, P.underlying T = some (.interface e) := (hT T _ ht).desc
      have hu' : P.underlying T = some (.interface (P.methodsAt T)) := by simp [Program.methodsAt, hu]
      rcases eqOp_some hr with ⟨rfl, rfl⟩ | ⟨rfl, rfl⟩
      · exact ⟨.bool false, by simp [eqGuard, run_eql_held_nil w T _ _ hu'], by simp [TR, TR1, CR]⟩
      · exact ⟨.bool true, by simp [eqGuard, run_neq_held_nil w T _ _ hu'], by simp [TR, TR1, CR]⟩
    · simp at hr
  · split at hr
    · rename_i ht
      split at hr
      · rename_i ha hb
        obtain ⟨hf, he⟩ := run_guard_some.1 hr
        exact big (.inl ⟨_, rfl⟩) (.inl ⟨_, rfl⟩) ht ha hb hf he
      · simp at hr
    · simp at hr
  · split at hr
    · rename_i ht
      split at hr
      · rename_i ha hb
        obtain ⟨hf, he⟩ := run_guard_some.1 hr
        exact big (.inr ⟨_, _, _, rfl⟩) (.inr ⟨_, _, _, rfl⟩) ht ha hb hf he
      · simp at hr
    · simp at hr
  · simp at hr

theorem op_bin (hT : TabOk P E.tab) (hdeep : ∀ T t, E.tab T = some t → t.deep < 9000) (h : Rel Mu nt S c a) {d : Nat} (hd : o.dst = some d) (hdn : d < nt) {op : BinOp} {T T' : TypeId} {x y : Operand} (ho : o.op = .binOp op T x y T')
    {u v z : V} (hx : (ev x).run S = some u) (hy : (ev y).run S = some v) (hz : (binV E op T u v).run S = some z) : OpOk P Mu nt S c a o [(.tmp d, z)] := by
  obtain ⟨r, h1, h2⟩ := binV_sound (x := x) (y := y) hT hdeep (ev_sound h hx) (ev_sound h hy) hz c.w
  refine OpOk.value' h hd hdn ?_ h2
  simp only [execOp, ho, Sem.run_bind, Sem.run_pure] at h1 ⊢
  rw [h1]; rfl

theorem op_un (h : Rel Mu nt S c a) {d : Nat} (hd : o.dst = some d) (hdn : d < nt) {op : UnOp} {T : TypeId} {x : Operand} (ho : o.op = .unOp op T x) {u z : V} (hx : (ev x).run S = some u) (hz : (unV op u).run S = some z) :
    OpOk P Mu nt S c a o [(.tmp d, z)] := by
  have hp := ev_sound h hx
  unfold unV at hz
  split at hz
  · obtain ⟨e, _⟩ := hp.int
    simp only [run_ret, Option.some.injEq] at hz; subst hz
    refine OpOk.value' h hd hdn (x := .int _ _) ?_ ⟨rfl, okInt_wrap _ _⟩
    simp only [execOp, ho, e, Op.unary, Op.intArith]; rfl
  · obtain ⟨e, _⟩ := hp.int
    simp only [run_ret, Option.some.injEq] at hz; subst hz
    refine OpOk.value' h hd hdn (x := .int _ _) ?_ ⟨rfl, okInt_wrap _ _⟩
    simp only [execOp, ho, e, Op.unary, Op.intBits]; rfl
  · rename_i b
    have e := hp.bool
    simp only [run_ret, Option.some.injEq] at hz; subst hz
    refine OpOk.value' h hd hdn (x := .bool !b) ?_ (by simp [TR, TR1, CR])
    simp only [execOp, ho, e, Op.unary]; rfl
  · simp at hz

theorem op_conv (hT : TabOk P E.tab) (h : Rel Mu nt S c a) {d : Nat} (hd : o.dst = some d) (hdn : d < nt) {T T' : TypeId} {x : Operand} (ho : o.op = .convert T' T x) {k k' : IntKind} {n : Int} (hx : (ev x).run S = some (.int k' n)) (ht : E.tab T = some (.int k)) (hs : ∃ ds, P.underlying T' = some ds) :
    OpOk P Mu nt S c a o [(.tmp d, .int k (k.wrap n))] := by
  obtain ⟨e, _⟩ := (ev_sound h hx).int
  obtain ⟨ds, hs⟩ := hs
  have hu : P.underlying T = some (.int k) := (hT T _ ht).desc
  refine OpOk.value' h hd hdn (x := .int k (k.wrap n)) ?_ ⟨rfl, okInt_wrap _ _⟩
  simp only [execOp, ho, e, Go.convert, Sem.run_bind, run_underlying hs, run_underlying hu, Result.andThen_ok]
  cases ds <;> simp [Conv.intToInt]

end
end Go.Eng
