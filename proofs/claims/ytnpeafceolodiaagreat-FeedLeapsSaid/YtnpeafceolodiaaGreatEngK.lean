/- The engine, part K: elements, fields, lengths. -/
import Derived.Test.YtnpeafceolodiaaGreatEngJ
namespace Go.Eng
open Go.RowKit

theorem Ty.at_nil (t : Ty) : t.at [] = some (0, t) := by cases t <;> simp [Ty.at]

theorem Ty.at_append : ∀ (t : Ty) (p q : List Nat) (o o' : Nat) (u r : Ty), t.at p = some (o, u) → u.at q = some (o', r) → t.at (p ++ q) = some (o + o', r) := by
  intro t
  induction t with
  | prod a b iha ihb =>
    intro p q o o' u r h h'
    match p with
    | [] => rw [Ty.at_nil] at h; cases h; simpa using h'
    | 0 :: p => simp only [Ty.at, List.cons_append] at h ⊢; exact iha p q o o' u r h h'
    | (i + 1) :: p =>
      simp only [Ty.at, List.cons_append, Option.map_eq_some_iff, Prod.exists, Prod.mk.injEq] at h ⊢
      obtain ⟨o1, u1, h, rfl, rfl⟩ := h
      have := ihb (i :: p) q o1 o' u1 r h h'
      exact ⟨_, _, this, by omega, rfl⟩
  | arr n k =>
    intro p q o o' u r h h'
    match p with
    | [] => rw [Ty.at_nil] at h; cases h; simpa using h'
    | [i] =>
      simp [Ty.at] at h
      obtain ⟨_, rfl, rfl⟩ := h
      match q with
      | [] => rw [Ty.at_nil] at h'; cases h'; simpa [Ty.at]
      | j :: q => simp [Ty.at] at h'
    | i :: j :: p => simp [Ty.at] at h
  | _ =>
    intro p q o o' u r h h'
    match p with
    | [] => rw [Ty.at_nil] at h; cases h; simpa using h'
    | i :: p => simp [Ty.at] at h

theorem inI_iff {i : Int} {n : Nat} (h : inI i n = true) : 0 ≤ i ∧ i < n := by simpa [inI] using h
theorem getI_iff {α : Type} {l : List α} {i : Int} {x : α} (h : getI l i = some x) : 0 ≤ i ∧ i < l.length ∧ l[i.toNat]? = some x := by
  cases i with
  | ofNat n =>
    simp only [getI] at h
    have := (List.getElem?_eq_some_iff.1 h).1
    exact ⟨by simp, by simpa using this, by simpa using h⟩
  | negSucc n => simp [getI] at h

section
variable {P : Program} {E : Env} {Mu : Nat → Prop} {nt : Nat} {S : St} {c : Cx} {a : Act} {o : Oper} {δ : List (Loc × V)}

theorem asI_some {v : V} {n : Int} (h : (asI v).run S = some n) : ∃ k, v = .int k n := by
  cases v <;> try (simp [asI] at h; done)
  simp [asI] at h; subst h; exact ⟨_, rfl⟩

theorem indexAt_slice {T e : TypeId} {t : Ty} (he : P.underlying T = some (.slice e)) (hk : TyOk P E.tab e t) {ad : Addr} {n cap : Nat} {k : IntKind} {i : Int} (h0 : 0 ≤ i) (h1 : i < n) :
    (Instr.indexAt T (.slice (some ad) n cap) (.int k i)).run P c.w = .ok (.pointer (some (ad.add (i.toNat * t.size)))) c.w := by
  simp [Instr.indexAt, asIntOf, run_underlying he, h0, h1, hk.size_run]

theorem indexAt_array {T : TypeId} {n : Nat} {kk : IntKind} (hk : TyOk P E.tab T (.arr n kk)) {ad : Addr} {k : IntKind} {i : Int} (h0 : 0 ≤ i) (h1 : i < n) :
    (Instr.indexAt T (.pointer (some ad)) (.int k i)).run P c.w = .ok (.pointer (some (ad.add i.toNat))) c.w := by
  obtain ⟨e, inf, hu, hue, hi, hsz⟩ := hk.desc
  simp [Instr.indexAt, asIntOf, run_underlying hu, Instr.sureAddr, h0, h1, sizeOf, typeInfo, hi, hsz]

/-- An element of a slice that is looked at. -/
theorem Rep.elem {f : Bool} {t : Ty} {l : List t.den} {x : Value} (h : Rep (c.Rf f) c.w (.sl .ro t) l [x]) {i : Nat} {e : t.den} (he : l[i]? = some e) :
    ∃ b o cap, x = .slice (some ⟨b, o, none⟩) l.length cap ∧ TR c (.eptr f t e) (.pointer (some ⟨b, o + i * t.size, none⟩)) := by
  simp only [Rep] at h
  obtain ⟨h0, ad, r, ex, hm⟩ := h
  simp at ex
  have hne : l ≠ [] := by rintro rfl; simp at he
  obtain ⟨b, o, es, rfl, hr, hmm⟩ := hm hne
  refine ⟨b, o, _, ex, ?_⟩
  obtain ⟨q1, q2⟩ := RepL.get (fun x cs => Rep.length t x cs) hr he
  simp only [TR, TR1, CR]
  refine ⟨b, o + i * t.size, _, rfl, q1, ?_⟩
  intro j u hj
  rw [List.getElem?_take] at hj
  split at hj
  · rw [List.getElem?_drop] at hj
    have := hmm _ _ hj
    rw [← Nat.add_assoc] at this
    exact this
  · simp at hj

theorem op_indexAddr (hT : TabOk P E.tab) (h : Rel Mu nt S c a) {d : Nat} (hd : o.dst = some d) (hdn : d < nt) {T : TypeId} {x i : Operand} (ho : o.op = .indexAddr T x i) {v vi : V} {n : Int}
    (hv : (ev x).run S = some v) (hvi : (ev i).run S = some vi) (hn : (asI vi).run S = some n) (hr : (indexAddrV E d T v n).run S = some δ) : OpOk P Mu nt S c a o δ := by
  have hx := ev_sound h hv
  obtain ⟨ki, rfl⟩ := asI_some hn
  obtain ⟨hie, _⟩ := (ev_sound h hvi).int
  -- an element of a slice that is looked at
  have key : ∀ {f : Bool} {t : Ty} {l : List t.den} {e : t.den}, isSl E T t = true → Rep (c.Rf f) c.w (.sl .ro t) l [a.eval x] → getI l n = some e → OpOk P Mu nt S c a o [(.tmp d, .eptr f t e)] := by
    intro f t l e hs hrep hg
    obtain ⟨e1, he1, hk⟩ := isSl_elem hT hs
    obtain ⟨h0, h1, h2⟩ := getI_iff hg
    obtain ⟨b, off, cap, hxe, htr⟩ := hrep.elem h2
    refine OpOk.value' h hd hdn (x := .pointer (some ⟨b, off + n.toNat * t.size, none⟩)) ?_ htr
    have := indexAt_slice (c := c) he1 hk (ad := ⟨b, off, none⟩) (cap := cap) (k := ki) h0 h1
    simp only [execOp, ho, hxe, hie, this, Sem.run_bind, Result.andThen_ok, Sem.run_pure, addr_add]
  -- an element of an array in a variable
  have keyA : ∀ {nn : Nat} {kk : IntKind} {b off : Nat} {v : V}, TyOk P E.tab T (.arr nn kk) → 0 ≤ n → n < nn → a.eval x = .pointer (some ⟨b, off, none⟩) → TR c v (.pointer (some ⟨b, off + n.toNat, none⟩)) → OpOk P Mu nt S c a o [(.tmp d, v)] := by
    intro nn kk b off v hk h0 h1 hxe htr
    refine OpOk.value' h hd hdn (x := .pointer (some ⟨b, off + n.toNat, none⟩)) ?_ htr
    have := indexAt_array (c := c) hk (ad := ⟨b, off, none⟩) (k := ki) h0 h1
    simp only [execOp, ho, hxe, hie, this, Sem.run_bind, Result.andThen_ok, Sem.run_pure, addr_add]
  cases v <;> simp only [indexAddrV, run_guard_some, run_get, run_shp, run_fail, reduceCtorEq, run_opt_some, run_ret, Option.some.injEq] at hr
  case sl f t l =>
    obtain ⟨hs, e, hg, rfl⟩ := hr
    exact key hs hx.sl hg
  case own m =>
    have hob := h.objs.obj m
    cases hS : S (.obj m) <;> rw [hS] at hr hob <;> simp only [shapeV, run_get, hS, run_guard_some, run_fail, reduceCtorEq, run_opt_some, run_need_some, run_ret, Option.some.injEq] at hr
    case arrc f t l =>
      obtain ⟨hs, hin, rfl⟩ := hr
      obtain ⟨h0, h1⟩ := inI_iff (show inI n l.length = true from hin)
      obtain ⟨e1, he1, hk⟩ := isSl_elem hT hs
      have hxo := hx.own
      cases hρ : c.ρ m <;> rw [hρ] at hob hxo <;> try exact hob.elim
      rename_i b t' len cap
      cases b with
      | none =>
        obtain ⟨rfl, hg, hz, rfl, rfl, rfl⟩ := hob
        simp at h1; omega
      | some b =>
        obtain ⟨rfl, hg, hz, hlen, _⟩ := hob
        simp only [RefOwn] at hxo
        have := indexAt_slice (c := c) he1 hk (ad := ⟨b, 0, none⟩) (n := len) (cap := cap) (k := ki) h0 (by omega)
        refine OpOk.value' h hd hdn (x := .pointer (some ⟨b, n.toNat * t'.size, none⟩)) ?_ ?_
        · simp only [execOp, ho, hxo, hie, this, Sem.run_bind, Result.andThen_ok, Sem.run_pure, addr_add, Nat.zero_add]
        · simp only [TR, TR1, CR]
          refine ⟨_, rfl, ?_⟩
          rw [hρ]
          exact ⟨n.toNat, [], 0, t', rfl, by omega, Ty.at_nil t', rfl⟩
    case frzc f t l =>
      obtain ⟨hs, e, hg, rfl⟩ := hr
      have hxo := hx.own
      cases hρ : c.ρ m <;> rw [hρ] at hob hxo <;> try exact hob.elim
      rename_i b t' len cap
      obtain ⟨rfl, _, _, _, hrep⟩ := hob
      exact key hs (hrep (a.eval x) (by cases b <;> exact hxo)) hg
  case vsl m p0 l0 h0 =>
    obtain ⟨hs, hr⟩ := hr
    have hob := h.objs.obj m
    cases hS : S (.obj m) <;> rw [hS] at hr hob <;> simp only [run_fail, reduceCtorEq] at hr
    rename_i t z
    cases hρ : c.ρ m <;> rw [hρ] at hob <;> try exact hob.elim
    rename_i b t'
    obtain ⟨rfl, _⟩ := hob
    obtain ⟨e1, t1, he1, hk, hsz⟩ := isSl1_elem hT hs
    have hxv := hx.vsl
    rw [hρ] at hxv
    obtain ⟨off, nn, kk, ad, r, hat, hle1, hle2, hxe, had⟩ := hxv
    simp only [Ty.tyAt_of hat, run_need_some, run_ret, Option.some.injEq] at hr
    obtain ⟨hin, rfl⟩ := hr
    obtain ⟨q0, q1⟩ := inI_iff hin
    have := had (by omega)
    subst this
    have := indexAt_slice (c := c) he1 hk (ad := ⟨b, off + l0, none⟩) (n := h0 - l0) (cap := h0 - l0 + r) (k := ki) q0 q1
    refine OpOk.value' h hd hdn (x := .pointer (some ⟨b, off + l0 + n.toNat, none⟩)) ?_ ?_
    · simp only [execOp, ho, hxe, hie, this, Sem.run_bind, Result.andThen_ok, Sem.run_pure, addr_add, hsz, Nat.mul_one]
    · simp only [TR, TR1, CR]
      refine ⟨_, rfl, ?_⟩
      rw [hρ]
      exact ⟨_, _, Ty.at_append t' p0 [l0 + n.toNat] off (l0 + n.toNat) _ (.int kk) hat (by simp [Ty.at]; omega), by congr 3; omega⟩
  case ptr m p0 =>
    cases ht : E.tab T with
    | none => simp [ht] at hr
    | some tt =>
      cases tt <;> simp only [ht, run_fail, reduceCtorEq, run_shp] at hr
      rename_i nn kk
      have hk := hT T _ ht
      have hob := h.objs.obj m
      have hxp := hx.ptr
      have row : ∀ {t : Ty} {b : Option Nat} {len cap : Nat}, (c.ρ m = .arr b t len cap ∨ c.ρ m = .frz b t len cap) →
          (match (generalizing := false) p0 with
            | j :: q => match t.tyAt q with
              | some (.arr n' _) => Rd.guard (Nat.beq n' nn) (Rd.need (inI n nn) (.ret [(Loc.tmp d, V.ptr m (j :: (q ++ [n.toNat])))]))
              | _ => .fail
            | [] => .fail : Rd (List (Loc × V))).run S = some δ → OpOk P Mu nt S c a o δ := by
        intro t b len cap hρ hr
        have hxp' : ∃ b' i q off u, b = some b' ∧ p0 = i :: q ∧ i < len ∧ t.at q = some (off, u) ∧ a.eval x = .pointer (some ⟨b', i * t.size + off, none⟩) := by
          rcases hρ with hρ | hρ <;> rw [hρ] at hxp <;> cases b with
          | none => exact hxp.elim
          | some b => obtain ⟨i, q, off, u, h1, h2, h3, h4⟩ := hxp; exact ⟨b, i, q, off, u, rfl, h1, h2, h3, h4⟩
        obtain ⟨b, i, q, off, u, rfl, rfl, hi, hat, hxe⟩ := hxp'
        simp only [Ty.tyAt_of hat] at hr
        cases u <;> simp only [run_fail, reduceCtorEq, run_guard_some, run_need_some, run_ret, Option.some.injEq] at hr
        rename_i n' k'
        obtain ⟨hn', hin, rfl⟩ := hr
        have hn' := Nat.eq_of_beq_eq_true hn'
        subst hn'
        obtain ⟨q0, q1⟩ := inI_iff hin
        refine keyA hk q0 q1 hxe ?_
        simp only [TR, TR1, CR]
        refine ⟨_, rfl, ?_⟩
        have hat' := Ty.at_append t q [n.toNat] off n.toNat _ (.int k') hat (by simp [Ty.at]; omega)
        rcases hρ with hρ | hρ <;> rw [hρ] <;> exact ⟨i, _, _, _, rfl, hi, hat', by rw [Nat.add_assoc]⟩
      cases hS : S (.obj m) <;> rw [hS] at hr hob <;> simp only [shapeV, run_get, hS, run_fail, reduceCtorEq] at hr
      case obj t z =>
        cases hρ : c.ρ m <;> rw [hρ] at hob <;> try exact hob.elim
        rename_i b t'
        obtain ⟨rfl, _⟩ := hob
        rw [hρ] at hxp
        obtain ⟨off, u, hat, hxe⟩ := hxp
        simp only [Ty.tyAt_of hat] at hr
        cases u <;> simp only [run_fail, reduceCtorEq, run_guard_some, run_need_some, run_ret, Option.some.injEq] at hr
        rename_i n' k'
        obtain ⟨hn', hin, rfl⟩ := hr
        have hn' := Nat.eq_of_beq_eq_true hn'
        subst hn'
        obtain ⟨q0, q1⟩ := inI_iff hin
        refine keyA hk q0 q1 hxe ?_
        simp only [TR, TR1, CR]
        refine ⟨_, rfl, ?_⟩
        rw [hρ]
        exact ⟨_, _, Ty.at_append t' p0 [n.toNat] off n.toNat _ (.int k') hat (by simp [Ty.at]; omega), rfl⟩
      case arrc f t l =>
        cases hρ : c.ρ m <;> rw [hρ] at hob <;> try exact hob.elim
        rename_i b t' len cap
        have : t' = t := by cases b <;> exact hob.1
        subst this
        exact row (.inl hρ) hr
      case frzc f t l =>
        cases hρ : c.ρ m <;> rw [hρ] at hob <;> try exact hob.elim
        rename_i b t' len cap
        obtain ⟨rfl, _⟩ := hob
        exact row (.inr hρ) hr
  case eptr f t e =>
    cases t <;> simp only [run_fail, reduceCtorEq, run_guard_some, run_need_some, run_opt_some, run_ret, Option.some.injEq] at hr
    rename_i nn kk
    obtain ⟨hs, hin, y, hg, rfl⟩ := hr
    obtain ⟨q0, q1⟩ := inI_iff hin
    obtain ⟨h0, h1, h2⟩ := getI_iff hg
    obtain ⟨b, off, es, hxe, hrep, hm⟩ := hx.eptr
    refine keyA (isTy_ok hT hs) q0 q1 hxe ?_
    simp only [TR, TR1, CR]
    simp only [Rep, RepA] at hrep
    obtain ⟨e1, e2, rfl⟩ := hrep
    refine ⟨b, off + n.toNat, [.int kk y], rfl, ⟨rfl, e2 y (List.mem_of_getElem? h2)⟩, ?_⟩
    intro j u hj
    cases j with
    | zero =>
      simp at hj; subst hj
      have := hm n.toNat (.int kk y) ((List.getElem?_map ..).trans (congrArg (Option.map _) h2))
      simpa using this
    | succ j => simp at hj

theorem Flds.get {tab : TypeId → Option Ty} : ∀ {fs : List Field} {t : Ty} {off i o : Nat} {r : Ty}, Flds tab fs t off → t.at [i] = some (o, r) → ∃ f, fs[i]? = some f ∧ f.offset = off + o ∧ tab f.type = some r
  | [], .prod _ _, _, _, _, _, h, _ => h.elim
  | _, .unit, _, i, o, r, _, h' => by simp [Ty.at] at h'
  | f :: fs, .prod a b, off, 0, o, r, h, h' => by
      simp [Ty.at, Ty.at_nil] at h'
      obtain ⟨rfl, rfl⟩ := h'
      exact ⟨f, rfl, h.1, h.2.2.1⟩
  | f :: fs, .prod a b, off, i + 1, o, r, h, h' => by
      simp only [Ty.at, Option.map_eq_some_iff, Prod.exists, Prod.mk.injEq] at h'
      obtain ⟨o1, r1, h1, rfl, rfl⟩ := h'
      obtain ⟨f', q1, q2, q3⟩ := Flds.get h.2.2.2 h1
      exact ⟨f', by simpa using q1, by omega, q3⟩
  | [], .int _, _, _, _, _, h, _ => h.elim
  | _ :: _, .int _, _, _, _, _, h, _ => h.elim
  | [], .bool, _, _, _, _, h, _ => h.elim
  | _ :: _, .bool, _, _, _, _, h, _ => h.elim
  | [], .str, _, _, _, _, h, _ => h.elim
  | _ :: _, .str, _, _, _, _, h, _ => h.elim
  | [], .arr _ _, _, _, _, _, h, _ => h.elim
  | _ :: _, .arr _ _, _, _, _, _, h, _ => h.elim
  | [], .sl _ _, _, _, _, _, h, _ => h.elim
  | _ :: _, .sl _ _, _, _, _, _, h, _ => h.elim
  | [], .opq, _, _, _, _, h, _ => h.elim
  | _ :: _, .opq, _, _, _, _, h, _ => h.elim
  | [], .ifc, _, _, _, _, h, _ => h.elim
  | _ :: _, .ifc, _, _, _, _, h, _ => h.elim

theorem fieldAt_run (hT : TabOk P E.tab) {T : TypeId} {t r : Ty} (hk : TyOk P E.tab T t) {i off : Nat} (hat : t.at [i] = some (off, r)) (hns : (∀ n k, t ≠ .arr n k)) (hr : (!Nat.beq r.size 0) = true) {ad : Addr} :
    (Instr.fieldAt T (.pointer (some ad)) i).run P c.w = .ok (.pointer (some (ad.add off))) c.w := by
  have hd := hk.desc
  have hst : ∃ fs, P.underlying T = some (.struct fs) ∧ Flds E.tab fs.toList t 0 := by
    cases t <;> try (simp [Ty.at] at hat; done)
    · exact (hns _ _ rfl).elim
    · obtain ⟨fs, h1, _, h3⟩ := hd; exact ⟨fs, h1, h3⟩
  obtain ⟨fs, hu, hf⟩ := hst
  obtain ⟨f, h1, h2, h3⟩ := hf.get hat
  have h1' : fs[i]? = some f := by simpa using h1
  have hkr := hT _ _ h3
  have hne : r.size ≠ 0 := by intro hh; simp [hh] at hr
  simp [Instr.fieldAt, run_underlying hu, h1', Instr.sureAddr, fieldPlace, hkr.size_run, hne, h2]

theorem projE_some {f : Bool} : ∀ {t : Ty} {e : t.den} {i : Nat} {u : V} {off : Nat} {r : Ty} {es : List Value}, projE f t e i = some u → t.at [i] = some (off, r) → Rep (c.Rf f) c.w t e es →
    ∃ y : r.den, u = .eptr f r y ∧ Rep (c.Rf f) c.w r y ((es.drop off).take r.size)
  | .prod a b, e, 0, u, off, r, es, h, hat, hr => by
      simp [projE] at h
      simp [Ty.at, Ty.at_nil] at hat
      obtain ⟨rfl, rfl⟩ := hat
      obtain ⟨c1, c2, rfl, h1, h2⟩ := hr
      refine ⟨e.1, h.symm, ?_⟩
      have := Rep.length _ _ _ h1
      rw [← this]; simpa using h1
  | .prod a b, e, i + 1, u, off, r, es, h, hat, hr => by
      simp only [projE] at h
      simp only [Ty.at, Option.map_eq_some_iff, Prod.exists, Prod.mk.injEq] at hat
      obtain ⟨o1, r1, hat, rfl, rfl⟩ := hat
      obtain ⟨c1, c2, rfl, h1, h2⟩ := hr
      obtain ⟨y, e1, e2⟩ := projE_some h hat h2
      refine ⟨y, e1, ?_⟩
      have := Rep.length _ _ _ h1
      rw [← this, List.drop_append, List.drop_of_length_le (by omega)]
      simpa using e2
  | .unit, _, _, _, _, _, _, h, _, _ => by simp [projE] at h
  | .int _, _, _, _, _, _, _, h, _, _ => by simp [projE] at h
  | .bool, _, _, _, _, _, _, h, _, _ => by simp [projE] at h
  | .str, _, _, _, _, _, _, h, _, _ => by simp [projE] at h
  | .arr _ _, _, _, _, _, _, _, h, _, _ => by simp [projE] at h
  | .sl _ _, _, _, _, _, _, _, h, _, _ => by simp [projE] at h
  | .opq, _, _, _, _, _, _, h, _, _ => by simp [projE] at h
  | .ifc, _, _, _, _, _, _, h, _, _ => by simp [projE] at h

theorem op_fieldAddr (hT : TabOk P E.tab) (h : Rel Mu nt S c a) {d : Nat} (hd : o.dst = some d) (hdn : d < nt) {T : TypeId} {x : Operand} {i : Nat} (ho : o.op = .fieldAddr T x i) {v : V}
    (hv : (ev x).run S = some v) (hr : (fieldAddrV E d T v i).run S = some δ) : OpOk P Mu nt S c a o δ := by
  have hx := ev_sound h hv
  have key : ∀ {u r : Ty} {b off off' : Nat} {v : V}, isTy E T u = true → u.at [i] = some (off', r) → (∀ n k, u ≠ .arr n k) → (!Nat.beq r.size 0) = true → a.eval x = .pointer (some ⟨b, off, none⟩) → TR c v (.pointer (some ⟨b, off + off', none⟩)) → OpOk P Mu nt S c a o [(.tmp d, v)] := by
    intro u r b off off' v hs hat hns hz hxe htr
    have := fieldAt_run (c := c) hT (isTy_ok hT hs) hat hns hz (ad := ⟨b, off, none⟩)
    refine OpOk.value' h hd hdn (x := .pointer (some ⟨b, off + off', none⟩)) ?_ htr
    simp only [execOp, ho, hxe, this, Sem.run_bind, Result.andThen_ok, Sem.run_pure, addr_add]
  cases v <;> simp only [fieldAddrV, run_guard_some, run_shp, run_fail, reduceCtorEq, run_opt_some, run_ret, Option.some.injEq] at hr
  case ptr m p0 =>
    have hob := h.objs.obj m
    have hxp := hx.ptr
    have row : ∀ {t : Ty} {b : Option Nat} {len cap : Nat}, (c.ρ m = .arr b t len cap ∨ c.ρ m = .frz b t len cap) →
        (match (generalizing := false) p0 with
          | j :: q => match t.tyAt q with
            | some u => Rd.guard (isTy E T u) (match u with
              | .arr _ _ => .fail
              | u => match u.at [i] with
                | some (_, r) => Rd.guard (!Nat.beq r.size 0) (.ret [(Loc.tmp d, V.ptr m (j :: (q ++ [i])))])
                | none => .fail)
            | none => .fail
          | [] => .fail : Rd (List (Loc × V))).run S = some δ → OpOk P Mu nt S c a o δ := by
      intro t b len cap hρ hr
      have hxp' : ∃ b' i q off u, b = some b' ∧ p0 = i :: q ∧ i < len ∧ t.at q = some (off, u) ∧ a.eval x = .pointer (some ⟨b', i * t.size + off, none⟩) := by
        rcases hρ with hρ | hρ <;> rw [hρ] at hxp <;> cases b with
        | none => exact hxp.elim
        | some b => obtain ⟨i, q, off, u, h1, h2, h3, h4⟩ := hxp; exact ⟨b, i, q, off, u, rfl, h1, h2, h3, h4⟩
      obtain ⟨b, j, q, off, u, rfl, rfl, hi, hat, hxe⟩ := hxp'
      simp only [Ty.tyAt_of hat, run_guard_some] at hr
      obtain ⟨hs, hr⟩ := hr
      have hns : ∀ n k, u ≠ .arr n k := by rintro n k rfl; simp at hr
      have hr : (match (generalizing := false) u.at [i] with
        | some (_, r) => Rd.guard (!Nat.beq r.size 0) (.ret [(Loc.tmp d, V.ptr m (j :: (q ++ [i])))])
        | none => .fail : Rd (List (Loc × V))).run S = some δ := by
        cases u <;> first | exact hr | exact (hns _ _ rfl).elim
      cases hu : u.at [i] with
      | none => simp [hu] at hr
      | some r =>
        obtain ⟨off', r⟩ := r
        simp only [hu, run_guard_some, run_ret, Option.some.injEq] at hr
        obtain ⟨hz, rfl⟩ := hr
        refine key hs hu hns hz hxe ?_
        simp only [TR, TR1, CR]
        refine ⟨_, rfl, ?_⟩
        have hat' := Ty.at_append t q [i] off off' _ r hat hu
        rcases hρ with hρ | hρ <;> rw [hρ] <;> exact ⟨j, _, _, _, rfl, hi, hat', by rw [Nat.add_assoc]⟩
    cases hS : S (.obj m) <;> rw [hS] at hr hob <;> simp only [shapeV, run_get, hS, run_fail, reduceCtorEq] at hr
    case obj t z =>
      cases hρ : c.ρ m <;> rw [hρ] at hob <;> try exact hob.elim
      rename_i b t'
      obtain ⟨rfl, _⟩ := hob
      rw [hρ] at hxp
      obtain ⟨off, u, hat, hxe⟩ := hxp
      simp only [Ty.tyAt_of hat, run_guard_some] at hr
      obtain ⟨hs, hr⟩ := hr
      have hns : ∀ n k, u ≠ .arr n k := by rintro n k rfl; simp at hr
      have hr : (match (generalizing := false) u.at [i] with
        | some (_, r) => Rd.guard (!Nat.beq r.size 0) (.ret [(Loc.tmp d, V.ptr m (p0 ++ [i]))])
        | none => .fail : Rd (List (Loc × V))).run S = some δ := by
        cases u <;> first | exact hr | exact (hns _ _ rfl).elim
      cases hu : u.at [i] with
      | none => simp [hu] at hr
      | some r =>
        obtain ⟨off', r⟩ := r
        simp only [hu, run_guard_some, run_ret, Option.some.injEq] at hr
        obtain ⟨hz, rfl⟩ := hr
        refine key hs hu hns hz hxe ?_
        simp only [TR, TR1, CR]
        refine ⟨_, rfl, ?_⟩
        rw [hρ]
        exact ⟨_, _, Ty.at_append t' p0 [i] off off' _ r hat hu, rfl⟩
    case arrc f t l =>
      cases hρ : c.ρ m <;> rw [hρ] at hob <;> try exact hob.elim
      rename_i b t' len cap
      have : t' = t := by cases b <;> exact hob.1
      subst this
      exact row (.inl hρ) hr
    case frzc f t l =>
      cases hρ : c.ρ m <;> rw [hρ] at hob <;> try exact hob.elim
      rename_i b t' len cap
      obtain ⟨rfl, _⟩ := hob
      exact row (.inr hρ) hr
  case eptr f t e =>
    obtain ⟨hs, hr⟩ := hr
    cases hu : t.at [i] with
    | none => simp [hu] at hr
    | some r =>
      obtain ⟨off', r⟩ := r
      cases hp : projE f t e i with
      | none => simp [hu, hp] at hr
      | some u =>
        simp only [hu, hp, run_guard_some, run_ret, Option.some.injEq] at hr
        obtain ⟨hz, rfl⟩ := hr
        obtain ⟨b, off, es, hxe, hrep, hm⟩ := hx.eptr
        obtain ⟨y, rfl, hy⟩ := projE_some hp hu hrep
        have hns : ∀ n k, t ≠ .arr n k := by rintro n k rfl; simp [projE] at hp
        refine key hs hu hns hz hxe ?_
        simp only [TR, TR1, CR]
        refine ⟨b, off + off', _, rfl, hy, ?_⟩
        intro j u hj
        rw [List.getElem?_take] at hj
        split at hj
        · rw [List.getElem?_drop] at hj
          have := hm _ _ hj
          rw [← Nat.add_assoc] at this
          exact this
        · simp at hj

end
end Go.Eng
