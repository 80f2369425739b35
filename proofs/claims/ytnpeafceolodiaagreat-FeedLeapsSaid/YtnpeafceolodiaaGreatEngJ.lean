/- The engine, part J: parts of rows and of variables. -/
import Derived.Test.YtnpeafceolodiaaGreatEngI
namespace Go.Eng
open Go.RowKit

section
variable {P : Program} {E : Env} {Mu : Nat → Prop} {nt : Nat} {S : St} {c : Cx} {a : Act} {o : Oper} {δ : List (Loc × V)}

theorem isSl_elem (hT : TabOk P E.tab) {T : TypeId} {t : Ty} (h : isSl E T t = true) : ∃ e, P.underlying T = some (.slice e) ∧ TyOk P E.tab e t := by
  simp only [isSl] at h
  split at h
  · rename_i md t' ht
    simp at h; subst h
    obtain ⟨e, h1, h2⟩ := (hT T _ ht).desc
    exact ⟨e, h1, hT e _ h2⟩
  · simp at h
theorem isSl1_elem (hT : TabOk P E.tab) {T : TypeId} (h : isSl1 E T = true) : ∃ e t, P.underlying T = some (.slice e) ∧ TyOk P E.tab e t ∧ t.size = 1 := by
  simp only [isSl1] at h
  split at h
  · rename_i md t' ht
    obtain ⟨e, h1, h2⟩ := (hT T _ ht).desc
    exact ⟨e, t', h1, hT e _ h2, Nat.eq_of_beq_eq_true h⟩
  · simp at h
theorem isTy_ok (hT : TabOk P E.tab) {T : TypeId} {t : Ty} (h : isTy E T t = true) : TyOk P E.tab T t := by
  simp only [isTy] at h
  split at h
  · rename_i t' ht
    simp at h; subst h
    exact hT T _ ht
  · simp at h

theorem bound_some {d : Int} {x : Option Operand} {b : Int} (h : (bound d x).run S = some b) : (x = none ∧ b = d) ∨ ∃ y k, x = some y ∧ (ev y).run S = some (.int k b) := by
  cases x with
  | none => simp [bound] at h; exact .inl ⟨rfl, h.symm⟩
  | some y =>
    simp only [bound, run_bind_some] at h
    obtain ⟨v, h1, h2⟩ := h
    cases v <;> try (simp [asI] at h2; done)
    simp [asI] at h2; subst h2
    exact .inr ⟨y, _, rfl, h1⟩

theorem okCut_iff {a b : Int} {n : Nat} (h : okCut a b n = true) : 0 ≤ a ∧ a ≤ b ∧ b ≤ n := by
  simp [okCut] at h; exact ⟨h.1.1, h.1.2, h.2⟩

/-- The bounds of a slice. -/
theorem bounds_run (h : Rel Mu nt S c a) {isSl : Bool} {n cap : Nat} {lo hi : Option Operand} {l r : Int} (hl : (bound 0 lo).run S = some l) (hh : (bound n hi).run S = some r) (hc : okCut l r n = true) (hcap : n ≤ cap) :
    (Instr.sliceBounds isSl n cap (lo.map a.eval) (hi.map a.eval) none).run P c.w = .ok (l.toNat, r.toNat, cap) c.w := by
  obtain ⟨h1, h2, h3⟩ := okCut_iff hc
  have e1 : ((r.toNat : Nat) : Int) = r := Int.toNat_of_nonneg (by omega)
  rcases bound_some hl with ⟨rfl, rfl⟩ | ⟨y, k, rfl, hy⟩ <;> rcases bound_some hh with ⟨rfl, rfl⟩ | ⟨z, k', rfl, hz⟩
  · simp [Instr.sliceBounds]
  · obtain ⟨ez, _⟩ := (ev_sound h hz).int
    simp [Instr.sliceBounds, ez, run_sliceBound, h2, (by omega : r ≤ (cap : Int))]
  · obtain ⟨ey, _⟩ := (ev_sound h hy).int
    simp [Instr.sliceBounds, ey, run_sliceBound, h1, h2]
  · obtain ⟨ey, _⟩ := (ev_sound h hy).int
    obtain ⟨ez, _⟩ := (ev_sound h hz).int
    simp [Instr.sliceBounds, ey, ez, run_sliceBound, h1, (by omega : 0 ≤ r), (by omega : r ≤ (cap : Int)), e1, h2]

def slicedV (ad : Option Addr) (cap lo hi size : Nat) : Value := .slice (if cap = lo then ad else ad.map (·.add (lo * size))) (hi - lo) (cap - lo)

theorem slice_run (h : Rel Mu nt S c a) {T : TypeId} {t : Ty} {e : TypeId} (he : P.underlying T = some (.slice e)) (hk : TyOk P E.tab e t) {ad : Option Addr} {n cap : Nat} {lo hi : Option Operand} {l r : Int}
    (hl : (bound 0 lo).run S = some l) (hh : (bound n hi).run S = some r) (hc : okCut l r n = true) (hcap : n ≤ cap) :
    (Instr.sliceAt T (.slice ad n cap) (lo.map a.eval) (hi.map a.eval) none).run P c.w = .ok (slicedV ad cap l.toNat r.toNat t.size) c.w := by
  have hb := bounds_run (P := P) (isSl := true) h hl hh hc hcap
  simp [Instr.sliceAt, Instr.slice, run_underlying he, hb, hk.size_run, slicedV]

theorem RepL.cutR {α : Type} {r : α → List Value → Prop} {n : Nat} (hr : ∀ x cs, r x cs → cs.length = n) {l : List α} {es : List Value} (lo hi : Nat) (h : RepL r l es) : RepL r (cut l lo hi) ((es.take (hi * n)).drop (lo * n)) :=
  RepL.drop hr lo (RepL.take hr hi h)

theorem Mem.cut {R : Nat → Nat → Prop} {w : World} {b o : Nat} {es : List Value} (h : Mem R w b o es) (i k : Nat) : Mem R w b (o + i) ((es.take k).drop i) := by
  intro j u hj
  rw [List.getElem?_drop, List.getElem?_take] at hj
  split at hj
  · have := h _ _ hj
    rw [← Nat.add_assoc] at this
    exact this
  · simp at hj

theorem length_cut {α : Type} (l : List α) (lo hi : Nat) (h : hi ≤ l.length) : (cut l lo hi).length = hi - lo := by
  simp [Eng.cut]; omega

/-- A part of a slice. -/
theorem Rep.cut {f : Bool} {t : Ty} {l : List t.den} {ad : Option Addr} {n cap : Nat} (h : Rep (c.Rf f) c.w (.sl .ro t) l [.slice ad n cap]) {lo hi : Nat} (h1 : lo ≤ hi) (h2 : hi ≤ l.length) :
    n = l.length ∧ l.length ≤ cap ∧ Rep (c.Rf f) c.w (.sl .ro t) (cut l lo hi) [slicedV ad cap lo hi t.size] := by
  simp only [Rep] at h
  obtain ⟨h0, ad', r, e, hm⟩ := h
  simp at e
  obtain ⟨rfl, rfl, rfl⟩ := e
  refine ⟨rfl, by omega, ?_⟩
  have hlen := length_cut l lo hi h2
  simp only [Rep]
  have hcap' : l.length + r - lo = hi - lo + (l.length + r - hi) := by omega
  refine ⟨by rw [hlen]; omega, if l.length + r = lo then ad else ad.map (·.add (lo * t.size)), l.length + r - hi, by rw [hlen, slicedV, hcap'], fun hne => ?_⟩
  have hlt : lo < hi := by
    apply Classical.byContradiction
    intro hh
    exact hne (List.eq_nil_of_length_eq_zero (by rw [hlen]; omega))
  have hne' : l ≠ [] := by rintro rfl; simp at h2; omega
  obtain ⟨b, o, es, rfl, hr, hmm⟩ := hm hne'
  have hnq : ¬ (l.length + r = lo) := by omega
  refine ⟨b, o + lo * t.size, (es.take (hi * t.size)).drop (lo * t.size), ?_, hr.cutR (fun x cs => Rep.length t x cs) lo hi, hmm.cut _ _⟩
  simp [hnq, addr_add]

theorem op_slice (hT : TabOk P E.tab) (h : Rel Mu nt S c a) {d : Nat} (hd : o.dst = some d) (hdn : d < nt) {T : TypeId} {x : Operand} {lo hi : Option Operand} (ho : o.op = .slice T x lo hi none) {v : V}
    (hv : (ev x).run S = some v) (hr : (sliceV E d T v lo hi).run S = some δ) : OpOk P Mu nt S c a o δ := by
  have hx := ev_sound h hv
  -- a part of a slice that is looked at
  have key : ∀ {f : Bool} {t : Ty} {l : List t.den} {ad n cap} {p q : Int}, isSl E T t = true → Rep (c.Rf f) c.w (.sl .ro t) l [.slice ad n cap] → a.eval x = .slice ad n cap → (bound 0 lo).run S = some p → (bound l.length hi).run S = some q → okCut p q l.length = true →
      ∃ y, (execOp a.eval o).run P c.w = .ok (.value y) c.w ∧ TR c (.sl f t (cut l p.toNat q.toNat)) y := by
    intro f t l ad n cap p q hs hrep he hp hq hc
    obtain ⟨e, he1, hk⟩ := isSl_elem hT hs
    obtain ⟨h1, h2, h3⟩ := okCut_iff hc
    obtain ⟨rfl, hcap, hcut⟩ := hrep.cut (lo := p.toNat) (hi := q.toNat) (by omega) (by omega)
    have hrun := slice_run (P := P) h he1 hk (ad := ad) hp hq hc hcap
    refine ⟨slicedV ad cap p.toNat q.toNat t.size, ?_, ?_⟩
    · simp only [execOp, ho, he, Option.map_none, Sem.run_bind, hrun, Result.andThen_ok, Sem.run_pure]
    · simpa only [TR, TR1, CR] using hcut
  cases v <;> simp only [sliceV, run_guard_some, run_get, run_fail, reduceCtorEq] at hr
  case sl f t l =>
    obtain ⟨hs, hr⟩ := hr
    simp only [cutOf, run_bind_some, run_need_some, run_ret, Option.some.injEq] at hr
    obtain ⟨p, hp, q, hq, hc, rfl⟩ := hr
    have hrep := hx.sl
    have hrep' := hrep
    simp only [Rep] at hrep'
    obtain ⟨_, ad, r, e, _⟩ := hrep'
    simp at e
    rw [e] at hrep
    obtain ⟨y, h1, h2⟩ := key hs hrep e hp hq hc
    exact OpOk.value' h hd hdn h1 h2
  case str s =>
    obtain ⟨hs, hr⟩ := hr
    simp only [run_bind_some, run_need_some, run_ret, Option.some.injEq] at hr
    obtain ⟨p, hp, q, hq, hc, rfl⟩ := hr
    obtain ⟨h1, h2, h3⟩ := okCut_iff hc
    obtain ⟨e, hsz⟩ := hx.str
    have hb := bounds_run (P := P) (isSl := false) h hp hq hc (Nat.le_refl _)
    have hk := (isTy_ok hT hs).desc
    simp only [TyDesc'] at hk
    refine OpOk.value' h hd hdn (x := .string (s.extract p.toNat q.toNat)) ?_ ⟨rfl, ?_⟩
    · simp [execOp, ho, e, Instr.sliceAt, Instr.slice, run_underlying hk, hb]
    · simp [ByteArray.size_extract]; omega
  case own m =>
    have hob := h.objs.obj m
    cases hS : S (.obj m) <;> rw [hS] at hr hob <;> simp only [run_guard_some, run_fail, reduceCtorEq] at hr
    case arrc f t l =>
      obtain ⟨hs, hr⟩ := hr
      simp only [cutOf, run_bind_some, run_need_some, run_ret, Option.some.injEq] at hr
      obtain ⟨p, hp, q, hq, hc, rfl⟩ := hr
      obtain ⟨c1, o1, l1, w1, ρ1, f1, n1⟩ := h.objs.freeze hS
      have o1' := o1.obj m
      rw [St.set_same] at o1'
      obtain ⟨b, t', len, cap, e1, e2⟩ := f1
      rw [e2] at o1'
      obtain ⟨rfl, _, _, _, hrep⟩ := o1'
      have hxo := hx.own
      rw [e1] at hxo
      have hrep := hrep (a.eval x) (by cases b <;> exact hxo)
      have hrep' := hrep
      simp only [Rep] at hrep'
      obtain ⟨_, ad, r, e, _⟩ := hrep'
      simp at e
      have hze := e.symm
      rw [e] at hrep
      have h' : Rel Mu nt (S.set (.obj m) (.frzc f t' l)) c1 a := h.objs' l1 (fun t => St.set_other _ _ _ _ (by simp)) o1
      obtain ⟨ee, he1, hk⟩ := isSl_elem hT hs
      obtain ⟨h1, h2, h3⟩ := okCut_iff hc
      obtain ⟨_, hcap, hcut⟩ := hrep.cut (lo := p.toNat) (hi := q.toNat) (by omega) (by omega)
      have hrun := slice_run (P := P) h he1 hk (ad := ad) hp hq hc hcap
      refine OpOk.go hd hdn h' (Step.frz l1 w1 n1) (x := slicedV ad (l.length + r) p.toNat q.toNat t'.size) (v := .sl f t' (cut l p.toNat q.toNat)) ?_ ?_ rfl
      · simp only [execOp, ho, ← hze, Option.map_none, Sem.run_bind, hrun, Result.andThen_ok, Sem.run_pure, w1]
      · simpa only [TR, TR1, CR] using hcut
    case frzc f t l =>
      obtain ⟨hs, hr⟩ := hr
      simp only [cutOf, run_bind_some, run_need_some, run_ret, Option.some.injEq] at hr
      obtain ⟨p, hp, q, hq, hc, rfl⟩ := hr
      cases hρ : c.ρ m <;> rw [hρ] at hob <;> try exact hob.elim
      rename_i b t' len cap
      obtain ⟨rfl, _, _, _, hrep⟩ := hob
      have hxo := hx.own
      rw [hρ] at hxo
      have hrep := hrep (a.eval x) (by cases b <;> exact hxo)
      have hrep' := hrep
      simp only [Rep] at hrep'
      obtain ⟨_, ad, r, e, _⟩ := hrep'
      simp at e
      have hze := e.symm
      rw [e] at hrep
      obtain ⟨y, h1, h2⟩ := key hs hrep hze.symm hp hq hc
      exact OpOk.value' h hd hdn h1 h2
  case vsl m p0 l0 h0 =>
    obtain ⟨hs, hr⟩ := hr
    have hob := h.objs.obj m
    cases hS : S (.obj m) <;> rw [hS] at hr hob <;> simp only [run_fail, reduceCtorEq] at hr
    simp only [run_bind_some, run_need_some, run_ret, Option.some.injEq] at hr
    obtain ⟨p, hp, q, hq, hc, rfl⟩ := hr
    obtain ⟨e, t1, he1, hk, hsz⟩ := isSl1_elem hT hs
    obtain ⟨h1, h2, h3⟩ := okCut_iff hc
    have hxv := hx.vsl
    cases hρ : c.ρ m <;> rw [hρ] at hxv hob <;> try exact hob.elim
    case var b t' =>
      obtain ⟨off, n, k, ad, r, hat, hle1, hle2, hxe, had⟩ := hxv
      have hrun := slice_run (P := P) h he1 hk (ad := ad) hp hq hc (Nat.le_add_right _ r)
      refine OpOk.value' h hd hdn (x := slicedV ad (h0 - l0 + r) p.toNat q.toNat t1.size) ?_ ?_
      · simp only [execOp, ho, hxe, Option.map_none, Sem.run_bind, hrun, Result.andThen_ok, Sem.run_pure]
      · simp only [TR, TR1, CR]
        refine ⟨_, rfl, ?_⟩
        rw [hρ]
        have e1 : l0 + q.toNat - (l0 + p.toNat) = q.toNat - p.toNat := by omega
        have e2 : h0 - l0 + r - p.toNat = q.toNat - p.toNat + (h0 - l0 + r - q.toNat) := by omega
        refine ⟨off, n, k, if h0 - l0 + r = p.toNat then ad else ad.map (·.add (p.toNat * t1.size)), h0 - l0 + r - q.toNat, hat, by omega, by omega, ?_, ?_⟩
        · rw [e1, slicedV, e2]
        · intro hlt
          have : ¬ (h0 - l0 + r = p.toNat) := by omega
          rw [if_neg this, had (by omega), hsz]
          simp [addr_add]; omega
  case ptr m p0 =>
    cases ht : E.tab T with
    | none => simp [ht] at hr
    | some tt =>
      cases tt <;> simp only [ht, run_fail, reduceCtorEq, run_get] at hr
      rename_i n k
      have hob := h.objs.obj m
      cases hS : S (.obj m) <;> rw [hS] at hr hob <;> simp only [run_fail, reduceCtorEq] at hr
      rename_i t z
      cases hρ : c.ρ m <;> rw [hρ] at hob <;> try exact hob.elim
      rename_i b t'
      obtain ⟨rfl, _⟩ := hob
      have hxp := hx.ptr
      rw [hρ] at hxp
      obtain ⟨off, u, hat, hxe⟩ := hxp
      simp only [Ty.tyAt_of hat] at hr
      cases u <;> simp only [run_fail, reduceCtorEq, run_guard_some] at hr
      rename_i n' k'
      obtain ⟨hn, hr⟩ := hr
      have hn := Nat.eq_of_beq_eq_true hn
      subst hn
      simp only [run_bind_some, run_need_some, run_ret, Option.some.injEq] at hr
      obtain ⟨p, hp, q, hq, hc, rfl⟩ := hr
      obtain ⟨h1, h2, h3⟩ := okCut_iff hc
      obtain ⟨e, i, hu, hue, hi, hsz⟩ := (hT T _ ht).desc
      have hb := bounds_run (P := P) (isSl := false) h hp hq hc (Nat.le_refl _)
      refine OpOk.value' h hd hdn (x := .slice (some (if n' = p.toNat then ⟨b, off, none⟩ else (⟨b, off, none⟩ : Addr).add p.toNat)) (q.toNat - p.toNat) (n' - p.toNat)) ?_ ?_
      · simp [execOp, ho, hxe, Instr.sliceAt, Instr.sureAddr, run_underlying hu, hb, sizeOf, typeInfo, hi, hsz]
      · simp only [TR, TR1, CR]
        refine ⟨_, rfl, ?_⟩
        rw [hρ]
        have e2 : n' - p.toNat = q.toNat - p.toNat + (n' - q.toNat) := by omega
        refine ⟨off, n', k', some (if n' = p.toNat then ⟨b, off, none⟩ else (⟨b, off, none⟩ : Addr).add p.toNat), n' - q.toNat, hat, by omega, by omega, ?_, ?_⟩
        · rw [← e2]
        · intro hlt
          rw [if_neg (by omega), addr_add]
end
end Go.Eng
