/- The engine, part L: lengths, elements of arrays, the smaller and the larger. -/
import Derived.Test.YtnpeafceolodiaaGreatEngK
namespace Go.Eng
open Go.RowKit

section
variable {P : Program} {E : Env} {Mu : Nat → Prop} {nt : Nat} {S : St} {c : Cx} {a : Act} {o : Oper} {δ : List (Loc × V)}

theorem isAnySl_elem (hT : TabOk P E.tab) {T : TypeId} (h : isAnySl E T = true) : ∃ e, P.underlying T = some (.slice e) := by
  simp only [isAnySl] at h
  split at h
  · rename_i md t' ht
    obtain ⟨e, h1, h2⟩ := (hT T _ ht).desc
    exact ⟨e, h1⟩
  · simp at h

theorem okInt_len {n : Nat} (h : n ≤ maxLen) : okInt .i64 n := by
  simp only [maxLen] at h
  unfold okInt IntKind.wrap IntKind.signed IntKind.bits
  simp
  split <;> omega

theorem goInt_eq {n : Nat} : goInt n = .int .i64 n := by
  simp [goInt]

theorem lenV_sound (hT : TabOk P E.tab) (h : ObjsR Mu S c) {T : TypeId} {v : V} {x : Value} {n : Int} (hx : TR c v x) (hr : (lenV E T v).run S = some n) {ty : TypeId} {Ts : Array TypeId} (hTs : Ts[0]? = some T) :
    (Builtin.len_ Ts ty #[x]).run P c.w = .ok (.int .i64 n) c.w ∧ okInt .i64 n := by
  have key : ∀ {ad : Option Addr} {k cap : Nat}, isAnySl E T = true → x = .slice ad k cap → k ≤ maxLen → (Builtin.len_ Ts ty #[x]).run P c.w = .ok (.int .i64 k) c.w ∧ okInt .i64 k := by
    intro ad k cap hs hxe hk
    obtain ⟨e, he⟩ := isAnySl_elem hT hs
    exact ⟨by simp [Builtin.len_, hTs, hxe, run_underlying he, goInt_eq], okInt_len hk⟩
  cases v <;> simp only [lenV, run_guard_some, run_get, run_shp, run_fail, reduceCtorEq, run_ret, Option.some.injEq] at hr
  case str s =>
    obtain ⟨hs, rfl⟩ := hr
    obtain ⟨rfl, hk⟩ := hx.str
    have hd := (isTy_ok hT hs).desc
    simp only [TyDesc'] at hd
    exact ⟨by simp [Builtin.len_, hTs, run_underlying hd, goInt_eq], okInt_len hk⟩
  case nils =>
    obtain ⟨hs, rfl⟩ := hr
    exact key hs hx.nils (Nat.zero_le _)
  case sl f t l =>
    obtain ⟨hs, rfl⟩ := hr
    have hrep := hx.sl
    simp only [Rep] at hrep
    obtain ⟨h0, ad, r, e, _⟩ := hrep
    simp at e
    exact key hs e h0
  case own m =>
    obtain ⟨hs, hr⟩ := hr
    have hob := h.obj m
    have hxo := hx.own
    cases hS : S (.obj m) <;> rw [hS] at hr hob <;> simp only [shapeV, run_get, hS, run_fail, reduceCtorEq, run_ret, Option.some.injEq] at hr
    case arrc f t l =>
      cases hρ : c.ρ m <;> rw [hρ] at hob hxo <;> try exact hob.elim
      rename_i b t' len cap
      cases b with
      | none =>
        obtain ⟨rfl, _, _, rfl, rfl, rfl⟩ := hob
        subst hr
        obtain ⟨ad, hxo⟩ := hxo
        exact key hs hxo (Nat.zero_le _)
      | some b =>
        obtain ⟨rfl, _, _, rfl, h1, h2, _⟩ := hob
        subst hr
        exact key hs hxo (by omega)
    case frzc f t l =>
      cases hρ : c.ρ m <;> rw [hρ] at hob hxo <;> try exact hob.elim
      rename_i b t' len cap
      obtain ⟨rfl, _, _, rfl, hrep⟩ := hob
      have hrep := hrep x (by cases b <;> exact hxo)
      simp only [Rep] at hrep
      obtain ⟨h0, ad, r, e, _⟩ := hrep
      simp at e
      subst hr
      exact key hs e h0
  case vsl m p lo hi =>
    obtain ⟨hs, hr⟩ := hr
    have hob := h.obj m
    have hxo := hx.vsl
    cases hS : S (.obj m) <;> rw [hS] at hr hob <;> simp only [run_fail, reduceCtorEq, run_ret, Option.some.injEq] at hr
    rename_i t z
    cases hρ : c.ρ m <;> rw [hρ] at hob hxo <;> try exact hob.elim
    rename_i b t'
    obtain ⟨rfl, hg, hc, cells, e, hb, hcr⟩ := hob
    obtain ⟨off, n, k, ad, cap, hat, hle1, hle2, hxe, _⟩ := hxo
    rw [run_need_some] at hr
    obtain ⟨hb, hr⟩ := hr
    simp at hr hb
    subst hr
    exact key hs hxe (by simp only [maxLen]; omega)

theorem indexV_sound (hT : TabOk P E.tab) {T : TypeId} {v u : V} {x : Value} {n : Int} {k : IntKind} (hx : TR c v x) (hr : (indexV E T v n).run S = some u) :
    ∃ y, (Instr.index T x (.int k n)).run P c.w = .ok y c.w ∧ TR c u y := by
  cases v <;> simp only [indexV, run_guard_some, run_get, run_fail, reduceCtorEq, run_opt_some, run_ret, Option.some.injEq] at hr
  case arr kk k' l =>
    obtain ⟨hs, e, hg, rfl⟩ := hr
    obtain ⟨h0, h1, h2⟩ := getI_iff hg
    obtain ⟨cs, rfl, hc⟩ := hx
    simp only [CR] at hc
    obtain ⟨e1, e2, e3⟩ := hc
    obtain ⟨el, inf, hu, hue, hi, hsz⟩ := (isTy_ok hT hs).desc
    refine ⟨.int k' e, ?_, ⟨rfl, e2 e (List.mem_of_getElem? h2)⟩⟩
    have hget : cs[n.toNat]? = some (.int k' e) := by
      rw [← Array.getElem?_toList, e3, List.getElem?_map, h2]; rfl
    have hia : (Go.isAgg el).run P c.w = .ok false c.w := by simp [Go.isAgg, run_underlying hue]
    have hlt : n < (kk : Int) := by rw [← e1]; exact h1
    simp [Instr.index, asIntOf, run_underlying hu, h0, hlt, part, hia, sizeOf, typeInfo, hi, hsz, hget]
  case str s =>
    obtain ⟨hs, e, hg, rfl⟩ := hr
    obtain ⟨h0, h1, h2⟩ := getI_iff hg
    obtain ⟨rfl, _⟩ := hx.str
    have hd := (isTy_ok hT hs).desc
    simp only [TyDesc'] at hd
    have hget : s[n.toNat]? = some e := by
      rw [Array.getElem?_toList] at h2
      obtain ⟨hlt, hh⟩ := Array.getElem?_eq_some_iff.1 h2
      rw [getElem?_pos s n.toNat hlt]
      exact congrArg some hh
    refine ⟨.int .u8 e.toNat, by simp [Instr.index, asIntOf, run_underlying hd, h0, hget], ⟨rfl, ?_⟩⟩
    have := e.toNat_lt
    unfold okInt IntKind.wrap IntKind.signed IntKind.bits
    simp
    omega

theorem op_index (hT : TabOk P E.tab) (h : Rel Mu nt S c a) {d : Nat} (hd : o.dst = some d) (hdn : d < nt) {T : TypeId} {x i : Operand} (ho : o.op = .index T x i) {v vi u : V} {n : Int}
    (hv : (ev x).run S = some v) (hvi : (ev i).run S = some vi) (hn : (asI vi).run S = some n) (hr : (indexV E T v n).run S = some u) : OpOk P Mu nt S c a o [(.tmp d, u)] := by
  obtain ⟨ki, rfl⟩ := asI_some hn
  obtain ⟨hie, _⟩ := (ev_sound h hvi).int
  obtain ⟨y, h1, h2⟩ := indexV_sound (k := ki) hT (ev_sound h hv) hr
  refine OpOk.value' h hd hdn (x := y) ?_ h2
  simp only [execOp, ho, hie, h1, Sem.run_bind, Result.andThen_ok, Sem.run_pure]

theorem RepA.take {N n : Nat} {k : IntKind} {l : List Int} {cs : List Value} (h : RepA N k l cs) (hn : n ≤ l.length) : RepA n k (l.take n) (cs.take n) := by
  obtain ⟨h1, h2, rfl⟩ := h
  exact ⟨by simp; omega, fun x hx => h2 x (List.mem_of_mem_take hx), by rw [List.map_take]⟩

theorem op_arrayPtr (hT : TabOk P E.tab) (h : Rel Mu nt S c a) {d : Nat} (hd : o.dst = some d) (hdn : d < nt) {T : TypeId} {x : Operand} (ho : o.op = .sliceToArrayPointer T x) {v : V}
    (hv : (ev x).run S = some v) (hr : (arrayPtrV E d T v).run S = some δ) : OpOk P Mu nt S c a o δ := by
  have hx := ev_sound h hv
  simp only [arrayPtrV] at hr
  cases ht : E.tab T with
  | none => simp [ht] at hr
  | some tt =>
    cases tt <;> simp only [ht, run_fail, reduceCtorEq, run_get] at hr
    rename_i n k
    obtain ⟨el, inf, hu, hue, hi, hsz⟩ := (hT T _ ht).desc
    have key : ∀ {ad : Option Addr} {len cap : Nat} {u : V}, a.eval x = .slice ad len cap → n ≤ len → TR c u (.pointer ad) → OpOk P Mu nt S c a o [(.tmp d, u)] := by
      intro ad len cap u hxe hle htr
      refine OpOk.value' h hd hdn (x := .pointer ad) ?_ htr
      simp [execOp, ho, hxe, Instr.arrayAt, run_underlying hu, Nat.not_lt.2 hle]
    cases v <;> simp only [run_fail, reduceCtorEq, run_get, run_guard_some, run_need_some] at hr
    case sl f t l =>
      split at hr
      · rename_i e
        subst e
        simp only [run_guard_some, run_need_some, run_ret, Option.some.injEq] at hr
        obtain ⟨hn0, hle, rfl⟩ := hr
        have hn0 : 0 < n := by simpa using hn0
        have hle : n ≤ (l : List Int).length := by simpa using hle
        have hrep := hx.sl
        simp only [Rep] at hrep
        obtain ⟨h0, ad, r, e, hm⟩ := hrep
        simp at e
        have hne : l ≠ [] := by rintro rfl; simp at hle; omega
        obtain ⟨b, off, es, rfl, hrl, hmm⟩ := hm hne
        refine key e hle ?_
        simp only [TR, TR1, CR]
        obtain ⟨q1, q2, q3⟩ := RepL_int (R := c.Rf f) (w := c.w) hrl
        refine ⟨b, off, es.take n, rfl, ?_, ?_⟩
        · simp only [Rep, castL_rfl]
          exact RepA.take ⟨q1, q2, q3⟩ hle
        · have := hmm.cut 0 n
          simpa using this
      · simp at hr
    case vsl m p lo hi' =>
      obtain ⟨hn0, hle, hr⟩ := hr
      have hn0 : 0 < n := by simpa using hn0
      have hle : n ≤ hi' - lo := by simpa using hle
      have hob := h.objs.obj m
      have hxo := hx.vsl
      cases hS : S (.obj m) <;> rw [hS] at hr hob <;> simp only [run_fail, reduceCtorEq] at hr
      rename_i t z
      cases hρ : c.ρ m <;> rw [hρ] at hob hxo <;> try exact hob.elim
      rename_i b t'
      obtain ⟨rfl, _⟩ := hob
      obtain ⟨off, N, kk, ad, cap, hat, hle1, hle2, hxe, had⟩ := hxo
      simp only [Ty.tyAt_of hat, run_ret, Option.some.injEq] at hr
      subst hr
      refine key hxe hle ?_
      simp only [TR, TR1, CR]
      refine ⟨_, rfl, ?_⟩
      rw [hρ]
      exact ⟨off, N, kk, hat, by omega, by rw [had (by omega)]⟩
    case own m =>
      have hob := h.objs.obj m
      have hxo := hx.own
      cases hS : S (.obj m) <;> rw [hS] at hr hob <;> simp only [run_fail, reduceCtorEq] at hr
      case arrc f t l =>
        split at hr
        · rename_i e
          subst e
          simp only [run_guard_some, run_need_some, run_ret, Option.some.injEq] at hr
          obtain ⟨hn0, hle, rfl⟩ := hr
          have hn0 : 0 < n := by simpa using hn0
          have hle : n ≤ (l : List Int).length := by simpa using hle
          cases hρ : c.ρ m <;> rw [hρ] at hob hxo <;> try exact hob.elim
          rename_i b t' len cap
          cases b with
          | none =>
            obtain ⟨rfl, _, _, rfl, rfl, rfl⟩ := hob
            simp at hle; omega
          | some b =>
            obtain ⟨rfl, _, _, rfl, h1, h2, _⟩ := hob
            refine key hxo hle ?_
            simp only [TR, TR1, CR]
            refine ⟨_, rfl, ?_⟩
            rw [hρ]
            exact ⟨k, rfl, rfl, by simpa using hle, rfl⟩
        · simp at hr
      case frzc f t l =>
        split at hr
        · rename_i e
          subst e
          simp only [run_guard_some, run_need_some, run_ret, Option.some.injEq] at hr
          obtain ⟨hn0, hle, rfl⟩ := hr
          have hn0 : 0 < n := by simpa using hn0
          have hle : n ≤ (l : List Int).length := by simpa using hle
          cases hρ : c.ρ m <;> rw [hρ] at hob hxo <;> try exact hob.elim
          rename_i b t' len cap
          obtain ⟨rfl, _, _, rfl, hrep⟩ := hob
          cases b with
          | none =>
            have hrep := hrep (.slice none 0 0) ⟨none, rfl⟩
            simp only [Rep] at hrep
            obtain ⟨h0, ad, r, e, _⟩ := hrep
            simp at e
            simp [← e.2.1] at hle; omega
          | some b =>
            refine key hxo hle ?_
            simp only [TR, TR1, CR]
            refine ⟨_, rfl, ?_⟩
            rw [hρ]
            exact ⟨k, rfl, rfl, by simpa using hle, rfl⟩
        · simp at hr

end
end Go.Eng
