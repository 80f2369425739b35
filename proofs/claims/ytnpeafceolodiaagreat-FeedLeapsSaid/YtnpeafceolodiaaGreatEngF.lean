/- The engine, part F: single operations. -/
import Derived.Test.YtnpeafceolodiaaGreatEngE
import Derived.Laws.StructEq
import Derived.Laws.Small
import Derived.Laws.Slices
import Derived.Laws.Unary
import Derived.Laws.Shifts
namespace Go.Eng
open Go.RowKit

@[simp] theorem apply_nil (S : St) : S.apply [] = S := rfl
@[simp] theorem apply_cons (S : St) (l : Loc) (v : V) (δ : List (Loc × V)) : S.apply ((l, v) :: δ) = (S.apply δ).set l v := rfl

theorem okInt_wrap (k : IntKind) (n : Int) : okInt k (k.wrap n) := by
  unfold okInt IntKind.wrap IntKind.signed IntKind.bits
  cases k <;> simp <;> (try split) <;> (try split) <;> omega

section
variable {P : Program} {E : Env} {Mu : Nat → Prop} {nt : Nat} {S : St} {c : Cx} {a : Act} {o : Oper} {δ : List (Loc × V)} {K : Act → World → Prop} {Q : Exit → Act → World → Prop}

theorem constV_sound {c : Cx} {x : Value} {v : V} (h : constV x = some v) : TR c v x := by
  cases x <;> simp [constV] at h
  case int k n => obtain ⟨h1, rfl⟩ := h; exact ⟨rfl, h1⟩
  case bool b => subst h; simp [TR, TR1, CR]
  case string s => obtain ⟨h1, rfl⟩ := h; exact ⟨rfl, h1⟩
  case pointer a => cases a <;> simp at h; subst h; simp [TR, TR1, CR]
  case slice a n m =>
    cases a <;> cases n <;> cases m <;> simp at h
    subst h; simp [TR, TR1, CR]
  case nilIface => subst h; simp [TR, TR1, CR]

theorem ev_sound {x : Operand} {v : V} (h : Rel Mu nt S c a) (hr : (ev x).run S = some v) : TR c v (a.eval x) := by
  cases x with
  | tmp t => simp [ev] at hr; subst hr; exact h.tmp t
  | const x =>
    simp only [ev] at hr
    cases hc : constV x with
    | none => simp [hc] at hr
    | some u => simp [hc] at hr; subst hr; exact constV_sound hc
  | func f => simp [ev] at hr; subst hr; simp [TR, TR1, CR, Act.eval]
  | global g => simp [ev] at hr

/-- What is to be shown of an operation. -/
def OpOk (P : Program) (Mu : Nat → Prop) (nt : Nat) (S : St) (c : Cx) (a : Act) (o : Oper) (δ : List (Loc × V)) : Prop :=
  ∀ (K : Act → World → Prop) (Q : Exit → Act → World → Prop), (∀ c' a', Rel Mu nt (S.apply δ) c' a' → Step Mu c c' → K a' c'.w) → o.wp P a c.w K Q

theorem set?_rel {c' : Cx} (h : Rel Mu nt S c' a) {d : Option Tmp} (hd : ∀ t, d = some t → t < nt) {v : V} {x : Value} (hv : TR c' v x) : Rel Mu nt (S.apply (set? d v)) c' (a.put d x) := by
  cases d with
  | none => exact h
  | some t => exact h.setTmp (hd t rfl) hv

/-- It yields a value, in the world that it got. -/
theorem OpOk.value (h : Rel Mu nt S c a) (hd : ∀ t, o.dst = some t → t < nt) {v : V} {x : Value} (hx : (execOp a.eval o).run P c.w = .ok (.value x) c.w) (hv : TR c v x) :
    OpOk P Mu nt S c a o (set? o.dst v) := by
  intro K Q hK
  unfold Oper.wp
  rw [hx]
  exact hK c _ (set?_rel h hd hv) (Step.refl c)

theorem OpOk.value' (h : Rel Mu nt S c a) {d : Nat} (ho : o.dst = some d) (hd : d < nt) {v : V} {x : Value} (hx : (execOp a.eval o).run P c.w = .ok (.value x) c.w) (hv : TR c v x) :
    OpOk P Mu nt S c a o [(.tmp d, v)] := by
  have := OpOk.value h (fun t ht => by rw [ho] at ht; cases ht; exact hd) hx hv
  rw [ho] at this; exact this

/-- A value in a world that went on. -/
theorem OpOk.go {d : Nat} (ho : o.dst = some d) (hd : d < nt) {v : V} {x : Value} {S' : St} {c' : Cx} (h' : Rel Mu nt S' c' a) (hs : Step Mu c c')
    (hx : (execOp a.eval o).run P c.w = .ok (.value x) c'.w) (hv : TR c' v x) (hδ : S.apply δ = S'.set (.tmp d) v) : OpOk P Mu nt S c a o δ := by
  intro K Q hK
  unfold Oper.wp
  rw [hx]
  refine hK c' _ ?_ hs
  rw [hδ, ho]
  exact h'.setTmp hd hv

theorem op_move (h : Rel Mu nt S c a) (hd : ∀ t, o.dst = some t → t < nt) {x : Operand} (ho : o.op = .move x ∨ o.op = .assign x) {v : V} (hr : (ev x).run S = some v) : OpOk P Mu nt S c a o (set? o.dst v) :=
  OpOk.value h hd (by rcases ho with ho | ho <;> simp [execOp, ho]) (ev_sound h hr)

theorem TR.bool {b : Bool} {x : Value} (h : TR c (.bool b) x) : x = .bool b := by simpa [TR, TR1, CR] using h
theorem TR.int {k : IntKind} {n : Int} {x : Value} (h : TR c (.int k n) x) : x = .int k n ∧ okInt k n := by simpa [TR, TR1, CR] using h
theorem TR.str {s : ByteArray} {x : Value} (h : TR c (.str s) x) : x = .string s ∧ s.size ≤ maxLen := by simpa [TR, TR1, CR] using h
theorem TR.ptr {m : Nat} {p : List Nat} {x : Value} (h : TR c (.ptr m p) x) : RefPtr (c.ρ m) p x := by
  simp only [TR, TR1, CR] at h
  obtain ⟨y, e, h⟩ := h
  cases e; exact h
theorem TR.own {m : Nat} {x : Value} (h : TR c (.own m) x) : RefOwn (c.ρ m) x := by
  simp only [TR, TR1, CR] at h
  obtain ⟨y, e, h⟩ := h
  cases e; exact h
theorem TR.vsl {m : Nat} {p : List Nat} {lo hi : Nat} {x : Value} (h : TR c (.vsl m p lo hi) x) : RefVsl (c.ρ m) p lo hi x := by
  simp only [TR, TR1, CR] at h
  obtain ⟨y, e, h⟩ := h
  cases e; exact h
theorem TR.vap {m : Nat} {p : List Nat} {lo n : Nat} {x : Value} (h : TR c (.vap m p lo n) x) : RefVap (c.ρ m) p lo n x := by
  simp only [TR, TR1, CR] at h
  obtain ⟨y, e, h⟩ := h
  cases e; exact h
theorem TR.eptr {f : Bool} {t : Ty} {e : t.den} {x : Value} (h : TR c (.eptr f t e) x) : ∃ b o es, x = .pointer (some ⟨b, o, none⟩) ∧ Rep (c.Rf f) c.w t e es ∧ Mem (c.Rf f) c.w b o es := by
  simp only [TR, TR1, CR] at h
  obtain ⟨b, o, es, e, h⟩ := h
  cases e; exact ⟨b, o, es, rfl, h⟩
theorem TR.sl {f : Bool} {t : Ty} {l : List t.den} {x : Value} (h : TR c (.sl f t l) x) : Rep (c.Rf f) c.w (.sl .ro t) l [x] := by
  simpa only [TR, TR1, CR] using h
theorem TR.nils {x : Value} (h : TR c .nils x) : x = .slice none 0 0 := by simpa [TR, TR1, CR] using h

theorem TRt.get {c : Cx} : ∀ {vs : List V} {xs : List Value} {i : Nat} {u : V}, TRt c vs xs → vs[i]? = some u → ∃ x, xs[i]? = some x ∧ (u = .undef ∨ TR1 c u x)
  | [], [], i, u, _, h => by simp at h
  | v :: vs, x :: xs, 0, u, h, hu => by simp at hu; subst hu; exact ⟨x, rfl, h.1⟩
  | v :: vs, x :: xs, i + 1, u, h, hu => by simp at hu ⊢; exact TRt.get h.2 hu
  | [], _ :: _, _, _, h, _ => h.elim
  | _ :: _, [], _, _, h, _ => h.elim

/-- No value of a variable is one of these. -/
theorem TR.of1 {v : V} {x : Value} (h : TR1 c v x) (h1 : v ≠ .undef) (h2 : v ≠ .skip) (h3 : ∀ vs, v ≠ .tup vs) : TR c v x := by
  cases v
  case undef => exact (h1 rfl).elim
  case skip => exact (h2 rfl).elim
  case tup vs => exact (h3 vs rfl).elim
  all_goals exact h

theorem TR1.not {v : V} {x : Value} (h : TR1 c v x) : v ≠ .undef ∧ v ≠ .skip ∧ (∀ vs, v ≠ .tup vs) := by
  refine ⟨?_, ?_, fun vs => ?_⟩ <;> rintro rfl <;> simp [TR1, CR] at h

theorem op_extract (h : Rel Mu nt S c a) {d i : Nat} (hd : o.dst = some d) (hdn : d < nt) {x : Operand} (ho : o.op = .extract x i) {vs : List V} (hr : (ev x).run S = some (.tup vs)) {u : V} (hu : vs[i]? = some u) :
    OpOk P Mu nt S c a o [(.tmp d, u)] := by
  have hx := ev_sound h hr
  obtain ⟨xs, e, ht⟩ := hx
  obtain ⟨y, hy, h1⟩ := ht.get hu
  refine OpOk.value' h hd hdn (x := y) ?_ (by
    rcases h1 with rfl | h1
    · trivial
    · have hn := h1.not
      exact TR.of1 h1 hn.1 hn.2.1 hn.2.2)
  simp at hy
  simp [execOp, ho, e, Instr.extract, hy]

theorem op_nilCheck (h : Rel Mu nt S c a) (hd : ∀ t, o.dst = some t → t < nt) {x : Operand} (ho : o.op = .nilCheck x) {v : V} (hr : (ev x).run S = some v) (hv : (∃ m p, v = .ptr m p) ∨ ∃ f t e, v = .eptr f t e) :
    OpOk P Mu nt S c a o (set? o.dst v) := by
  have hx := ev_sound h hr
  refine OpOk.value h hd (x := a.eval x) ?_ hx
  have : ∃ p, a.eval x = .pointer (some p) := by
    rcases hv with ⟨m, p, rfl⟩ | ⟨f, t, e, rfl⟩
    · exact hx.ptr.pointer
    · obtain ⟨b, o, es, e, _⟩ := hx.eptr
      exact ⟨_, e⟩
  obtain ⟨p, e⟩ := this
  simp [execOp, ho, e]

theorem zval_cells (t : Ty) : (if t.isAgg then Value.agg (zeroCells t).toArray else (zeroCells t).getD 0 Go.undef).cells.toList = zeroCells t := by
  cases t <;> simp [Ty.isAgg, zeroCells, Value.cells]

theorem op_alloc (hT : TabOk P E.tab) (hMu : ∀ b, c.w.heap.size ≤ b → Mu b) (h : Rel Mu nt S c a) {d : Nat} (hd : o.dst = some d) (hdn : d < nt) {T : TypeId} (ho : o.op = .alloc T) {t : Ty} (ht : E.tab T = some t) (hu : S (.obj d) = .undef) :
    OpOk P Mu nt S c a o [(.tmp d, .ptr d []), (.obj d, .obj t (zeroV t))] := by
  have hk := hT T t ht
  obtain ⟨h1, h2⟩ := h.objs.newObj hMu hu (.cells (zeroCells t).toArray T) (v := .obj t (zeroV t)) (r := .var c.w.heap.size t) rfl (fun c' _ hw _ =>
    ⟨rfl, hk.good, conf_zero t hk.good, (zeroCells t).toArray, T, by rw [hw]; exact heap_alloc_new _ _, CR.zero c' t⟩)
  refine OpOk.go hd hdn (h.objs' h2 (fun t => St.set_other _ _ _ _ (by simp)) h1) (Step.newObj h2) (x := .pointer (some ⟨c.w.heap.size, 0, none⟩)) ?_ ?_ rfl
  · have hz : (if t.isAgg then Value.agg (zeroCells t).toArray else (zeroCells t).getD 0 Go.undef).cells = (zeroCells t).toArray := by
      apply Array.ext'; rw [zval_cells]
    generalize hzz : (if t.isAgg then Value.agg (zeroCells t).toArray else (zeroCells t).getD 0 Go.undef) = z at hz
    have hzr := hk.zero_run (P := P) c.w
    rw [hzz] at hzr
    simp [execOp, ho, Instr.alloc, hzr, newVar, newRow, hz, Cx.setW, Cx.setRef]
  · simp only [TR, TR1, CR]
    refine ⟨_, rfl, ?_⟩
    have : ((c.setRef d (.var c.w.heap.size t)).setW (c.w.alloc (.cells (zeroCells t).toArray T))).ρ d = .var c.w.heap.size t := by simp [Cx.setW, Cx.setRef]
    rw [this]
    exact ⟨0, t, by simp [Ty.at], rfl⟩

theorem op_box (hT : TabOk P E.tab) (hMu : ∀ b, c.w.heap.size ≤ b → Mu b) (h : Rel Mu nt S c a) {d : Nat} (hd : o.dst = some d) (hdn : d < nt) {T : TypeId} {x : Operand} (ho : o.op = .box T x) {t : Ty} (ht : E.tab T = some t)
    {v : V} (hr : (ev x).run S = some v) (hc : conf t v = true) (hu : S (.obj d) = .undef) :
    OpOk P Mu nt S c a o [(.tmp d, .ptr d []), (.obj d, .obj t v)] := by
  have hx := ev_sound h hr
  obtain ⟨hcells, _⟩ := hx.cells hc
  obtain ⟨h1, h2⟩ := h.objs.newObj hMu hu (.cells (a.eval x).cells T) (v := .obj t v) (r := .var c.w.heap.size t) rfl (fun c' hl hw _ =>
    ⟨rfl, (hT T t ht).good, hc, (a.eval x).cells, T, by rw [hw]; exact heap_alloc_new _ _, CR.later hl _ _ hcells⟩)
  refine OpOk.go hd hdn (h.objs' h2 (fun t => St.set_other _ _ _ _ (by simp)) h1) (Step.newObj h2) (x := .pointer (some ⟨c.w.heap.size, 0, none⟩)) ?_ ?_ rfl
  · simp [execOp, ho, Instr.box, newVar, newRow, Cx.setW, Cx.setRef]
  · simp only [TR, TR1, CR]
    refine ⟨_, rfl, ?_⟩
    have : ((c.setRef d (.var c.w.heap.size t)).setW (c.w.alloc (.cells (a.eval x).cells T))).ρ d = .var c.w.heap.size t := by simp [Cx.setW, Cx.setRef]
    rw [this]
    exact ⟨0, t, by simp [Ty.at], rfl⟩

section
variable {α : Type} {r : α → List Value → Prop} {n : Nat}
theorem RepL.get (hr : ∀ x cs, r x cs → cs.length = n) : ∀ {l : List α} {es : List Value} {i : Nat} {e : α}, RepL r l es → l[i]? = some e → r e ((es.drop (i * n)).take n) ∧ i * n + n ≤ es.length
  | [], _, i, e, _, h => by simp at h
  | x :: l, _, 0, e, h, he => by
      obtain ⟨c1, c2, rfl, h1, h2⟩ := h
      simp at he; subst he
      have := hr _ _ h1
      subst this
      simpa using h1
  | x :: l, _, i + 1, e, h, he => by
      obtain ⟨c1, c2, rfl, h1, h2⟩ := h
      have hl := hr _ _ h1
      obtain ⟨q1, q2⟩ := RepL.get hr h2 (by simpa using he)
      have e1 : (i + 1) * n = c1.length + i * n := by rw [hl, Nat.add_mul, Nat.one_mul, Nat.add_comm]
      refine ⟨?_, by simp [e1]; omega⟩
      rw [e1, List.drop_append, List.drop_of_length_le (by omega)]
      simpa using q1
theorem RepL.set (hr : ∀ x cs, r x cs → cs.length = n) : ∀ {l : List α} {es es' : List Value} {i : Nat} {e : α}, RepL r l es → i < l.length → r e es' → RepL r (l.set i e) (es.take (i * n) ++ es' ++ es.drop (i * n + n))
  | [], _, _, i, e, _, h, _ => by simp at h
  | x :: l, _, es', 0, e, h, _, h' => by
      obtain ⟨c1, c2, rfl, h1, h2⟩ := h
      have := hr _ _ h1
      exact ⟨es', c2, by simp [← this], h', h2⟩
  | x :: l, _, es', i + 1, e, h, hi, h' => by
      obtain ⟨c1, c2, rfl, h1, h2⟩ := h
      have hl := hr _ _ h1
      have q := RepL.set hr h2 (Nat.lt_of_succ_lt_succ hi) h'
      have e1 : (i + 1) * n = c1.length + i * n := by rw [hl, Nat.add_mul, Nat.one_mul, Nat.add_comm]
      refine ⟨c1, _, ?_, h1, q⟩
      rw [e1, Nat.add_assoc, List.take_append, List.drop_append, List.take_of_length_le (by omega), List.drop_of_length_le (by omega)]
      simp
theorem RepL.append : ∀ {l m : List α} {c d : List Value}, RepL r l c → RepL r m d → RepL r (l ++ m) (c ++ d)
  | [], _, _, _, h, h' => by simp only [RepL] at h; subst h; simpa using h'
  | x :: l, m, _, d, h, h' => by
      obtain ⟨c1, c2, rfl, h1, h2⟩ := h
      exact ⟨c1, c2 ++ d, by simp, h1, h2.append h'⟩
theorem RepL.take (hr : ∀ x cs, r x cs → cs.length = n) : ∀ {l : List α} {es : List Value} (k : Nat), RepL r l es → RepL r (l.take k) (es.take (k * n))
  | [], _, k, h => by simp only [RepL] at h; subst h; simp [RepL]
  | x :: l, _, 0, h => by simp [RepL]
  | x :: l, _, k + 1, h => by
      obtain ⟨c1, c2, rfl, h1, h2⟩ := h
      have hl := hr _ _ h1
      have e1 : (k + 1) * n = c1.length + k * n := by rw [hl, Nat.add_mul, Nat.one_mul, Nat.add_comm]
      exact ⟨c1, c2.take (k * n), by rw [e1, List.take_append]; simp [List.take_of_length_le], h1, RepL.take hr k h2⟩
theorem RepL.drop (hr : ∀ x cs, r x cs → cs.length = n) : ∀ {l : List α} {es : List Value} (k : Nat), RepL r l es → RepL r (l.drop k) (es.drop (k * n))
  | [], _, k, h => by simp only [RepL] at h; subst h; simp [RepL]
  | x :: l, _, 0, h => by simpa using h
  | x :: l, _, k + 1, h => by
      obtain ⟨c1, c2, rfl, h1, h2⟩ := h
      have hl := hr _ _ h1
      have e1 : (k + 1) * n = c1.length + k * n := by rw [hl, Nat.add_mul, Nat.one_mul, Nat.add_comm]
      show RepL r (l.drop k) _
      have e2 : (c1 ++ c2).drop ((k + 1) * n) = c2.drop (k * n) := by
        rw [e1, List.drop_append, List.drop_of_length_le (by omega)]; simp
      rw [e2]
      exact RepL.drop hr k h2
end

/-- What is read where a pointer leads. -/
structure Stands (c : Cx) (x : Value) (u : Ty) (v : V) (b o : Nat) (cs : List Value) : Prop where
  ptr : x = .pointer (some ⟨b, o, none⟩)
  conf : conf u v = true
  cr : CR c v cs
  len : cs.length = u.size
  mem : ∀ j y, cs[j]? = some y → c.w.cell? ⟨b, o + j, none⟩ = some y

theorem cell_row {w : World} {b : Nat} {cells : Array Value} {e : TypeId} {fr : Nat × Nat} (hb : w.heap[b]? = some (.cells cells e fr)) (i : Nat) : w.cell? ⟨b, i, none⟩ = cells.toList[i]? := by
  rw [cell_of_row w b i cells e fr hb]; simp

theorem getElem?_cut {α : Type} {l : List α} {o n j : Nat} {y : α} (h : ((l.drop o).take n)[j]? = some y) : l[o + j]? = some y := by
  rw [List.getElem?_take] at h
  split at h
  · simpa using h
  · simp at h

theorem derefV_sound (h : ObjsR Mu S c) {m : Nat} {p : List Nat} {x : Value} (hp : RefPtr (c.ρ m) p x) {u : Ty} {v : V} (hr : (derefV m p).run S = some (u, v)) : ∃ b o cs, Stands c x u v b o cs := by
  have ho := h.obj m
  simp only [derefV, run_get] at hr
  cases hS : S (.obj m) <;> rw [hS] at hr ho <;> try (simp at hr; done)
  case obj t z =>
    cases hρ : c.ρ m <;> rw [hρ] at ho hp <;> try exact ho.elim
    rename_i b t'
    obtain ⟨rfl, hg, hc, cells, e, hb, hcr⟩ := ho
    obtain ⟨o, u', ha, rfl⟩ := hp
    simp only [Ty.tyAt_of ha, run_bind_some, run_ret, Option.some.injEq, Prod.mk.injEq] at hr
    obtain ⟨y, hy, rfl, rfl⟩ := hr
    obtain ⟨q1, q2, q3⟩ := CR.look t' p z y _ o u' hc hcr ha hy
    refine ⟨b, o, _, rfl, q1, q3, ?_, ?_⟩
    · exact CR.length _ _ _ q1 q3
    · intro j w hw
      rw [cell_row hb]; exact getElem?_cut hw
  case arrc f t l =>
    match p with
    | [] => simp at hr
    | i :: q =>
      cases hρ : c.ρ m <;> rw [hρ] at ho hp <;> try exact ho.elim
      rename_i b t' len cap
      cases b with
      | none => exact hp.elim
      | some b =>
        obtain ⟨rfl, hg, hz, h1, h2, h3, h4, cells, e, hb, hsz, hrep⟩ := ho
        obtain ⟨i', q', o, u', e', hi, ha, rfl⟩ := hp
        cases e'
        simp only [Ty.tyAt_of ha, run_opt_some, run_bind_some, run_ret, Option.some.injEq, Prod.mk.injEq] at hr
        obtain ⟨el, hel, y, hy, rfl, rfl⟩ := hr
        obtain ⟨r1, r2⟩ := RepL.get (fun x cs => Rep.length t' x cs) hrep hel
        obtain ⟨q1, q2, q3⟩ := CR.look t' q _ y _ o u' (conf_expand t' el hg) (CR.expand t' el _ r1) ha hy
        refine ⟨b, i * t'.size + o, _, rfl, q1, q3, CR.length _ _ _ q1 q3, ?_⟩
        intro j w hw
        have := getElem?_cut (getElem?_cut hw)
        rw [List.getElem?_take] at this
        rw [cell_row hb]
        split at this
        · rw [← this]; congr 1; omega
        · simp at this
  case frzc f t l =>
    match p with
    | [] => simp at hr
    | i :: q =>
      cases hρ : c.ρ m <;> rw [hρ] at ho hp <;> try exact ho.elim
      rename_i b t' len cap
      cases b with
      | none => exact hp.elim
      | some b =>
        obtain ⟨rfl, hg, _, h1, hrep⟩ := ho
        obtain ⟨i', q', o, u', e', hi, ha, rfl⟩ := hp
        cases e'
        simp only [Ty.tyAt_of ha, run_opt_some, run_bind_some, run_ret, Option.some.injEq, Prod.mk.injEq] at hr
        obtain ⟨el, hel, y, hy, rfl, rfl⟩ := hr
        have hrep := hrep _ rfl
        simp only [Rep] at hrep
        obtain ⟨_, ad, cap', e1, hmem⟩ := hrep
        have hne : l ≠ [] := by rintro rfl; simp at hel
        obtain ⟨b', o', es, rfl, hl, hm⟩ := hmem hne
        simp at e1
        obtain ⟨⟨rfl, rfl⟩, _⟩ := e1
        obtain ⟨r1, r2⟩ := RepL.get (fun x cs => Rep.length t' x cs) hl hel
        obtain ⟨q1, q2, q3⟩ := CR.look t' q _ y _ o u' (conf_expand t' el hg) (CR.expand t' el _ r1) ha hy
        refine ⟨b, i * t'.size + o, _, rfl, q1, q3, CR.length _ _ _ q1 q3, ?_⟩
        intro j w hw
        have := getElem?_cut (getElem?_cut hw)
        have := (hm _ _ this).2
        rw [← this]; congr 2; omega

theorem Stands.load (hT : TabOk P E.tab) {x : Value} {u : Ty} {v : V} {b o : Nat} {cs : List Value} (h : Stands c x u v b o cs) {T : TypeId} (ht : E.tab T = some u) :
    ∃ y, (Instr.loadAt T x).run P c.w = .ok y c.w ∧ TR c v y := by
  have hk := hT T u ht
  refine ⟨_, ?_, TR.of_cells h.conf h.cr⟩
  simp only [Instr.loadAt, h.ptr, Instr.sureAddr, Sem.run_bind, Sem.run_pure, Result.andThen_ok]
  exact hk.load_run h.len h.mem

theorem castD_rfl {t : Ty} (h : t = t) (x : t.den) : castD h x = x := rfl
theorem castL_rfl {t : Ty} (h : t = t) (x : List t.den) : castL h x = x := rfl

theorem Mem.cell {R : Nat → Nat → Prop} {w : World} {b o : Nat} {es : List Value} (h : Mem R w b o es) : ∀ j y, es[j]? = some y → w.cell? ⟨b, o + j, none⟩ = some y := fun j y hj => (h j y hj).2

theorem RepA.cut {n : Nat} {k : IntKind} {l : List Int} {cs : List Value} (h : RepA n k l cs) {lo m : Nat} (hl : lo + m ≤ n) : RepA m k (cut l lo (lo + m)) ((cs.drop lo).take m) := by
  obtain ⟨e, hok, rfl⟩ := h
  refine ⟨by simp [Eng.cut]; omega, fun x hx => hok x (List.mem_of_mem_take (List.mem_of_mem_drop hx)), ?_⟩
  simp only [Eng.cut, List.map_drop, List.map_take]
  rw [List.take_drop, Nat.add_comm]

theorem RepL_int {R : Nat → Nat → Prop} {w : World} {k : IntKind} : ∀ {l : List Int} {cs : List Value}, RepL (Rep R w (.int k)) l cs → RepA l.length k l cs
  | [], cs, h => by simp only [RepL] at h; subst h; exact ⟨rfl, by simp, rfl⟩
  | x :: l, cs, h => by
      obtain ⟨c1, c2, rfl, ⟨rfl, hx1⟩, h2⟩ := h
      obtain ⟨_, i2, i3⟩ := RepL_int h2
      refine ⟨rfl, fun y hy => ?_, by rw [i3]; rfl⟩
      rcases List.mem_cons.1 hy with rfl | hy
      · exact hx1
      · exact i2 y hy

theorem loadV_sound (hT : TabOk P E.tab) (h : ObjsR Mu S c) {T : TypeId} {v u : V} {x : Value} (hx : TR c v x) (hr : (loadV E T v).run S = some u) :
    ∃ y, (Instr.loadAt T x).run P c.w = .ok y c.w ∧ TR c u y := by
  simp only [loadV] at hr
  cases ht : E.tab T with
  | none => simp [ht] at hr
  | some t =>
    have hk := hT T t ht
    simp only [ht] at hr
    cases v <;> try (simp at hr; done)
    case ptr m p =>
      simp only [run_bind_some] at hr
      obtain ⟨⟨u', v'⟩, h1, h2⟩ := hr
      by_cases e : u' = t
      · simp only [e, if_true, run_ret, Option.some.injEq] at h2
        subst h2 e
        obtain ⟨b, o, cs, hs⟩ := derefV_sound h hx.ptr h1
        exact hs.load hT ht
      · simp [e] at h2
    case eptr f t' e =>
      by_cases e' : t' = t
      · subst e'
        simp only [dif_pos, run_ret, Option.some.injEq, castD_rfl] at hr
        subst hr
        obtain ⟨b, o, es, rfl, h1, h2⟩ := hx.eptr
        exact Stands.load hT ⟨rfl, conf_expand t' e hk.good, CR.expand t' e es h1, Rep.length _ _ _ h1, h2.cell⟩ ht
      · simp [e'] at hr
    case vap m p lo n =>
      cases t <;> try (simp at hr; done)
      rename_i n' k'
      by_cases e : n' = n
      · subst e
        simp only [if_true, run_get] at hr
        have hv := hx.vap
        have ho := h.obj m
        cases hS : S (.obj m) <;> rw [hS] at hr ho <;> try (simp at hr; done)
        case obj t z =>
          cases hρ : c.ρ m <;> rw [hρ] at ho hv <;> try exact ho.elim
          rename_i b t'
          obtain ⟨rfl, hg, hc, cells, e, hb, hcr⟩ := ho
          obtain ⟨o, N, k, ha, hle, rfl⟩ := hv
          simp only [run_bind_some] at hr
          obtain ⟨y, hy, hr⟩ := hr
          obtain ⟨q1, q2, q3⟩ := CR.look t' p z y _ o _ hc hcr ha hy
          cases y <;> try (simp at hr; done)
          rename_i n2 k2 l
          simp [conf] at q1
          obtain ⟨rfl, rfl⟩ := q1
          by_cases ek : k2 = k'
          · simp only [ek, if_true, run_ret, Option.some.injEq] at hr
            subst hr ek
            simp only [CR] at q3
            have q4 := q3.cut hle
            refine Stands.load hT (u := .arr n' k2) (v := .arr n' k2 (cut l lo (lo + n'))) ⟨rfl, by simp [conf], by simpa only [CR] using q4, q4.length, ?_⟩ ht
            intro j w hw
            have := getElem?_cut (getElem?_cut hw)
            rw [cell_row hb, ← this]; congr 1; omega
          · simp [ek] at hr
        case arrc f t l =>
          cases t <;> try (simp at hr; done)
          rename_i k
          cases hρ : c.ρ m <;> rw [hρ] at ho hv <;> try exact ho.elim
          rename_i b t' len cap
          cases b with
          | none => exact hv.elim
          | some b =>
            obtain ⟨rfl, hg, hz, h1, h2, h3, h4, cells, e, hb, hsz, hrep⟩ := ho
            obtain ⟨k0, rfl, e0, hle, rfl⟩ := hv
            by_cases ek : k = k'
            · simp only [ek, if_true, run_ret, Option.some.injEq] at hr
              subst hr ek
              have hra : RepA l.length k l (cells.toList.take (len * 1)) := RepL_int hrep
              have q4 := hra.cut (lo := lo) (m := n') (by rw [← h1]; exact hle)
              refine Stands.load hT (u := .arr n' k) (v := .arr n' k (cut l lo (lo + n'))) ⟨rfl, by simp [conf], by simpa only [CR] using q4, q4.length, ?_⟩ ht
              intro j w hw
              have := getElem?_cut hw
              rw [List.getElem?_take] at this
              split at this
              · rw [cell_row hb, ← this]
              · simp at this
            · simp [ek] at hr
        case frzc f t l =>
          cases t <;> try (simp at hr; done)
          rename_i k
          cases hρ : c.ρ m <;> rw [hρ] at ho hv <;> try exact ho.elim
          rename_i b t' len cap
          cases b with
          | none => exact hv.elim
          | some b =>
            obtain ⟨rfl, hg, hz, h1, hrep⟩ := ho
            obtain ⟨k0, rfl, e0, hle, rfl⟩ := hv
            by_cases ek : k = k'
            · simp only [ek, if_true, run_ret, Option.some.injEq] at hr
              subst hr ek
              have hrep := hrep _ rfl
              simp only [Rep] at hrep
              obtain ⟨_, ad, cap', e1, hmem⟩ := hrep
              by_cases hne : l = []
              · subst hne
                simp at h1; subst h1
                have hn0 : n' = 0 := by omega
                subst hn0
                exact Stands.load hT (u := .arr 0 k) (v := .arr 0 k (cut ([] : List Int) lo (lo + 0))) (cs := []) ⟨rfl, by simp [conf], by simp [CR, RepA, cut], rfl, by simp⟩ ht
              · obtain ⟨b', o', es, rfl, hl, hm⟩ := hmem hne
                simp at e1
                obtain ⟨⟨rfl, rfl⟩, _⟩ := e1
                have hra : RepA l.length k l es := RepL_int (R := c.R) (w := c.w) hl
                have q4 := hra.cut (lo := lo) (m := n') (by rw [← h1]; exact hle)
                refine Stands.load hT (u := .arr n' k) (v := .arr n' k (cut l lo (lo + n'))) ⟨rfl, by simp [conf], by simpa only [CR] using q4, q4.length, ?_⟩ ht
                intro j w hw
                have := hm.cell _ _ (getElem?_cut hw)
                rw [← this]; congr 2; omega
            · simp [ek] at hr
      · simp [e] at hr

theorem op_load (hT : TabOk P E.tab) (h : Rel Mu nt S c a) {d : Nat} (hd : o.dst = some d) (hdn : d < nt) {T : TypeId} {x : Operand} (ho : o.op = .load T x) {v u : V}
    (hr : (ev x).run S = some v) (hl : (loadV E T v).run S = some u) : OpOk P Mu nt S c a o [(.tmp d, u)] := by
  obtain ⟨y, h1, h2⟩ := loadV_sound hT h.objs (ev_sound h hr) hl
  exact OpOk.value' h hd hdn (by simp [execOp, ho, h1]) h2

end
end Go.Eng
