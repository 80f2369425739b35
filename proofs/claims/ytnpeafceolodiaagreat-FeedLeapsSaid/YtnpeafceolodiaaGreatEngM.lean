/- The engine, part M: rows that grow. -/
import Derived.Test.YtnpeafceolodiaaGreatEngL
import Derived.Laws.Append
namespace Go.Eng
open Go.RowKit

theorem kills_cons (m : Nat) (ks : List Nat) : kills (m :: ks) = (.obj m, .dead) :: kills ks := rfl
theorem kills_tmp (S : St) : ∀ (ks : List Nat) (t : Nat), S.apply (kills ks) (.tmp t) = S (.tmp t)
  | [], _ => rfl
  | m :: ks, t => by rw [kills_cons, apply_cons, St.set_other _ _ _ _ (by simp)]; exact kills_tmp S ks t
theorem kills_obj (S : St) : ∀ (ks : List Nat) (n : Nat), S.apply (kills ks) (.obj n) = if n ∈ ks then .dead else S (.obj n)
  | [], n => by simp [kills]
  | m :: ks, n => by
      rw [kills_cons, apply_cons]
      by_cases e : n = m
      · subst e; rw [St.set_same]; simp
      · rw [St.set_other _ _ _ _ (by simpa using e), kills_obj S ks n]
        simp [e]

def Cx.home (c : Cx) (d : Nat) (ks : List Nat) (r : Ref) (w' : World) : Cx := { c with ρ := fun n => if n = d then r else if n ∈ ks then .dead else c.ρ n, w := w' }

section
variable {P : Program} {E : Env} {Mu : Nat → Prop} {nt : Nat} {S : St} {c : Cx} {a : Act} {o : Oper} {δ : List (Loc × V)}

/-- A new name for a row, old or new; some names die. -/
theorem ObjsR.home (h : ObjsR Mu S c) {d : Nat} (hu : S (.obj d) = .undef) {ks : List Nat} {r : Ref} {w' : World} {v : V}
    (hvar : ∀ b t, r ≠ .var b t)
    (hfree : ∀ b, r.blk = some b → Mu b ∧ ∀ o, ¬ c.R b o)
    (hap : ∀ b n, r.blk = some b → n ∉ ks → (c.ρ n).blk ≠ some b)
    (hw : ∀ k, r.blk ≠ some k → k < c.w.heap.size → w'.heap[k]? = c.w.heap[k]?) (hs : c.w.heap.size ≤ w'.heap.size)
    (hobj : Later c (c.home d ks r w') → ObjR (c.home d ks r w') v r) :
    ObjsR Mu ((S.apply (kills ks)).set (.obj d) v) (c.home d ks r w') ∧ Later c (c.home d ks r w') := by
  have hn := h.ref_none hu
  have hl : Later c (c.home d ks r w') := ⟨rfl, fun n hne => by
      by_cases e : n = d
      · subst e; exact absurd hn hne
      · by_cases e' : n ∈ ks
        · exact .inl (by simp [Cx.home, e, e'])
        · exact .inr (.inl (by simp [Cx.home, e, e'])), fun _ _ h => h, fun b o u hR hc => by
      have hne : r.blk ≠ some b := fun hb => (hfree b hb).2 o hR
      exact (World.cell?_of_block (w := c.w) (w' := w') (a := ⟨b, o, none⟩) (hw b hne (h.rlt b o hR))).trans hc⟩
  have hρd : (c.home d ks r w').ρ d = r := by simp [Cx.home]
  have hρk : ∀ n, n ≠ d → n ∈ ks → (c.home d ks r w').ρ n = .dead := fun n e e' => by simp [Cx.home, e, e']
  have hρo : ∀ n, n ≠ d → n ∉ ks → (c.home d ks r w').ρ n = c.ρ n := fun n e e' => by simp [Cx.home, e, e']
  refine ⟨h.change hl hs (fun b o hR => Nat.lt_of_lt_of_le (h.rlt b o hR) hs) (fun n => n = d ∨ n ∈ ks) ?_ ?_ ?_ ?_ ?_ ?_, hl⟩
  · intro n hx
    have e : n ≠ d := fun e => hx (.inl e)
    have e' : n ∉ ks := fun e => hx (.inr e)
    refine ⟨?_, hρo n e e', fun b hb => ⟨hw b (fun hb' => hap b n hb' e' hb) (h.blk_lt hb), (h.free n b hb).2⟩⟩
    rw [St.set_other _ _ _ _ (by simpa using e), kills_obj, if_neg e']
  · intro n hx
    by_cases e : n = d
    · subst e; rw [St.set_same, hρd]; exact hobj hl
    · have e' : n ∈ ks := hx.resolve_left e
      rw [St.set_other _ _ _ _ (by simpa using e), kills_obj, if_pos e', hρk n e e']
      trivial
  · intro n b hx hb
    by_cases e : n = d
    · subst e; rw [hρd] at hb; exact hfree b hb
    · rw [hρk n e (hx.resolve_left e)] at hb; simp [Ref.blk] at hb
  · intro n b t hx hb hp
    by_cases e : n = d
    · subst e; rw [hρd] at hb; exact (hvar _ _ hb).elim
    · rw [hρk n e (hx.resolve_left e)] at hb; simp at hb
  · intro n n' b hx hx' hb hb'
    have key : ∀ n, (n = d ∨ n ∈ ks) → ((c.home d ks r w').ρ n).blk = some b → n = d := by
      intro n hx hb
      by_cases e : n = d
      · exact e
      · rw [hρk n e (hx.resolve_left e)] at hb; simp [Ref.blk] at hb
    rw [key n hx hb, key n' hx' hb']
  · intro n n' b hx hx' hb
    by_cases e : n = d
    · subst e; rw [hρd] at hb
      exact hap b n' hb (fun e => hx' (.inr e))
    · rw [hρk n e (hx.resolve_left e)] at hb; simp [Ref.blk] at hb

/-- What is appended: its cells. -/
theorem takeSl_cells (h : ObjsR Mu S c) {t : Ty} {v : V} {k : Tk (List t.den)} {x : Value} (hr : (takeSl .ro t v).run S = some k) (hx : TR c v x) :
    ∃ ad r es, x = .slice ad k.x.length (k.x.length + r) ∧ RepL (Rep (c.Rf k.fr) c.w t) k.x es ∧
      (k.x ≠ [] → ∃ b o, ad = some ⟨b, o, none⟩ ∧ ∀ j u, es[j]? = some u → c.w.cell? ⟨b, o + j, none⟩ = some u) := by
  have key : ∀ {f : Bool} {l : List t.den} {x : Value}, Rep (c.Rf f) c.w (.sl .ro t) l [x] → ∃ ad r es, x = .slice ad l.length (l.length + r) ∧ RepL (Rep (c.Rf f) c.w t) l es ∧
      (l ≠ [] → ∃ b o, ad = some ⟨b, o, none⟩ ∧ ∀ j u, es[j]? = some u → c.w.cell? ⟨b, o + j, none⟩ = some u) := by
    intro f l x hrep
    simp only [Rep] at hrep
    obtain ⟨h0, ad, r, e, hm⟩ := hrep
    simp at e
    by_cases hne : l = []
    · subst hne
      exact ⟨ad, r, [], e, rfl, fun h => (h rfl).elim⟩
    · obtain ⟨b, off, es, rfl, h1, h2⟩ := hm hne
      exact ⟨_, r, es, e, h1, fun _ => ⟨b, off, rfl, h2.cell⟩⟩
  cases v <;> simp only [takeSl, run_get, run_ret, run_fail, reduceCtorEq, Option.some.injEq] at hr
  case nils =>
    subst hr
    exact ⟨none, 0, [], hx.nils, rfl, fun h => (h rfl).elim⟩
  case sl f t' l =>
    split at hr
    · rename_i e; subst e
      simp only [run_ret, Option.some.injEq, castL_rfl] at hr
      subst hr
      exact key hx.sl
    · simp at hr
  case own m =>
    have hob := h.obj m
    have hxo := hx.own
    cases hS : S (.obj m) <;> rw [hS] at hr hob <;> simp only [run_fail, reduceCtorEq] at hr
    case arrc f t' l =>
      split at hr
      · rename_i e; subst e
        simp only [run_ret, Option.some.injEq, castL_rfl] at hr
        subst hr
        cases hρ : c.ρ m <;> rw [hρ] at hob hxo <;> try exact hob.elim
        rename_i b t'' len cap
        cases b with
        | none =>
          obtain ⟨rfl, _, _, rfl, rfl, rfl⟩ := hob
          obtain ⟨ad, hxo⟩ := hxo
          exact ⟨ad, 0, [], hxo, rfl, fun h => (h rfl).elim⟩
        | some b =>
          obtain ⟨rfl, hg, hz, hlen, h1, h2, _, cells, e, hb, hsz, hrep⟩ := hob
          refine ⟨some ⟨b, 0, none⟩, cap - l.length, _, ?_, hrep, fun _ => ⟨b, 0, rfl, fun j u hj => ?_⟩⟩
          · rw [show x = _ from hxo, hlen]
            show Value.slice _ l.length cap = Value.slice _ l.length (l.length + (cap - l.length))
            congr 1; omega
          · rw [List.getElem?_take] at hj
            split at hj
            · rw [cell_row hb]; simpa using hj
            · simp at hj
      · simp at hr
    case frzc f t' l =>
      split at hr
      · rename_i e; subst e
        simp only [run_ret, Option.some.injEq, castL_rfl] at hr
        subst hr
        cases hρ : c.ρ m <;> rw [hρ] at hob hxo <;> try exact hob.elim
        rename_i b t'' len cap
        obtain ⟨rfl, _, _, _, hrep⟩ := hob
        exact key (hrep x (by cases b <;> exact hxo))
      · simp at hr
  case vsl m p lo hi =>
    cases t <;> simp only [run_fail, reduceCtorEq, run_get] at hr
    rename_i kk
    have hob := h.obj m
    have hxo := hx.vsl
    cases hS : S (.obj m) <;> rw [hS] at hr hob <;> simp only [run_fail, reduceCtorEq, run_bind_some] at hr
    rename_i t z
    obtain ⟨y, hy, hr⟩ := hr
    cases hρ : c.ρ m <;> rw [hρ] at hob hxo <;> try exact hob.elim
    rename_i b t'
    obtain ⟨rfl, hg, hc, cells, e, hb, hcr⟩ := hob
    obtain ⟨off, n, k', ad, cap, hat, hle1, hle2, hxe, had⟩ := hxo
    obtain ⟨q1, q2, q3⟩ := CR.look t' p z y _ off _ hc hcr hat hy
    cases y <;> simp only [run_fail, reduceCtorEq] at hr
    rename_i n2 k2 l
    simp [conf] at q1
    obtain ⟨rfl, rfl⟩ := q1
    split at hr
    · rename_i ek
      subst ek
      simp only [run_ret, Option.some.injEq] at hr
      subst hr
      simp only [CR] at q3
      have hcut := q3.cut (lo := lo) (m := hi - lo) (by omega)
      have hll : l.length = n2 := q3.1
      have hl := length_cut l lo hi (by omega)
      rw [show lo + (hi - lo) = hi by omega] at hcut
      have hrl : ∀ {l : List Int} {cs : List Value} {n : Nat}, RepA n k2 l cs → RepL (Rep (c.Rf false) c.w (.int k2)) l cs := by
        intro l
        induction l with
        | nil => rintro cs n ⟨_, _, rfl⟩; rfl
        | cons x l ih =>
          rintro cs n ⟨h1, h2, rfl⟩
          exact ⟨[.int k2 x], l.map (.int k2), rfl, ⟨rfl, h2 x (by simp)⟩, ih (n := l.length) ⟨rfl, fun y hy => h2 y (by simp [hy]), rfl⟩⟩
      refine ⟨ad, cap, _, ?_, hrl hcut, fun hne => ⟨b, off + lo, had ?_, fun j u hj => ?_⟩⟩
      · rw [hxe]
        show _ = Value.slice ad (Eng.cut l lo hi).length ((Eng.cut l lo hi).length + cap)
        rw [hl]
      · apply Classical.byContradiction
        intro hh
        exact hne (List.eq_nil_of_length_eq_zero (by show (Eng.cut l lo hi).length = 0; rw [hl]; omega))
      · have h1 := getElem?_cut hj
        have h2 := getElem?_cut h1
        rw [cell_row hb, ← h2]; congr 1; omega
    · simp at hr

theorem zeroCells_length : ∀ t : Ty, (zeroCells t).length = t.size
  | .unit | .int _ | .bool | .str | .sl _ _ | .opq | .ifc => rfl
  | .arr n k => by simp [zeroCells, Ty.size]
  | .prod a b => by simp [zeroCells, Ty.size, zeroCells_length a, zeroCells_length b]

/-- What an append answers. -/
inductive Grown (Q : Nat → Prop) (w : World) (size : Nat) (sv : Value) (n m : Nat) (all : List Value) (e : TypeId) : Value → World → Prop where
  | none (ad : Option Addr) : sv = .slice ad 0 0 → n = 0 → m = 0 → Grown Q w size sv n m all e (.slice ad 0 0) w
  | room (g cap : Nat) (row cur : Array Value) (e' : TypeId) : Q g → w.heap[g]? = some (.cells cur e' (0, 0)) → cap ≤ maxLen → sv = .slice (some ⟨g, 0, none⟩) n cap → n + m ≤ cap → row.size = cap * size → row.toList.take ((n + m) * size) = all →
      Grown Q w size sv n m all e (.slice (some ⟨g, 0, none⟩) (n + m) cap) (w.setRow g row)
  | grown (cap : Nat) (row : Array Value) : n + m ≤ cap → cap ≤ maxLen → row.size = cap * size → row.toList.take ((n + m) * size) = all →
      Grown Q w size sv n m all e (.slice (some ⟨w.heap.size, 0, none⟩) (n + m) cap) (w.drew.alloc (.cells row e))

def OwnRow (Q : Nat → Prop) (w : World) (size : Nat) (sv : Value) (n : Nat) (olds : List Value) : Prop :=
  ((∃ ad, sv = .slice ad 0 0) ∧ n = 0 ∧ olds = []) ∨ ∃ g cap cur e, Q g ∧ sv = .slice (some ⟨g, 0, none⟩) n cap ∧ w.heap[g]? = some (.cells cur e (0, 0)) ∧ n ≤ cap ∧ cap ≤ maxLen ∧ cur.size = cap * size ∧ olds = cur.toList.take (n * size)

theorem append_run {Q : Nat → Prop} {T e : TypeId} {t : Ty} (hu : P.underlying T = some (.slice e)) (hk : TyOk P E.tab e t) (w : World) (ty : TypeId) {sv xv : Value} {n m r : Nat} {ad : Option Addr} {olds news : List Value}
    (ho : OwnRow Q w t.size sv n olds) (hx : xv = .slice ad m (m + r)) (hl : news.length = m * t.size) (hm : m ≠ 0 → ∃ b o, ad = some ⟨b, o, none⟩ ∧ ∀ j u, news[j]? = some u → w.cell? ⟨b, o + j, none⟩ = some u)
    (h1 : ∀ u ∈ news, u.oneCell' = true) (hb : n + m ≤ sizeMax) : ∃ out w', (Builtin.append_ #[T, T] ty #[sv, xv]).run P w = .ok out w' ∧ Grown Q w t.size sv n m (olds ++ news) e out w' := by
  obtain ⟨i, hi, hsz, hby, hz⟩ := hk.info
  subst hx
  have hb' : n + m ≤ 68719476736 := hb
  have hbytes : (n + m) * i.bytes ≤ 140737488355328 := by
    have := Nat.mul_le_mul hb' hby
    omega
  have h63 : n + m ≤ maxLen := by simp only [maxLen]; omega
  have hsmall : n + m ≤ 9223372036854775807 := by omega
  have hzs : (if t.isAgg then Value.agg (zeroCells t).toArray else (zeroCells t).getD 0 Go.undef).cells.size = t.size := by
    have : (if t.isAgg then Value.agg (zeroCells t).toArray else (zeroCells t).getD 0 Go.undef).cells = (zeroCells t).toArray := by
      apply Array.ext'; rw [zval_cells]
    rw [this]
    simpa using zeroCells_length t
  generalize (if t.isAgg then Value.agg (zeroCells t).toArray else (zeroCells t).getD 0 Go.undef) = z at hz hzs
  have hnewsa : ∀ {b o : Nat}, (∀ j u, news[j]? = some u → w.cell? ⟨b, o + j, none⟩ = some u) → ∀ j u, news[j]? = some u → w.cell? ((⟨b, o, none⟩ : Addr).add j) = some u := by
    intro b o h j u hj; rw [addr_add]; exact h j u hj
  have hrow : ∀ (old : Nat) (all : List Value), old < n + m → all.length = (n + m) * t.size →
      (all.toArray ++ Builtin.zeroCells z.cells (grownCap w (n + m) old e - (n + m))).size = grownCap w (n + m) old e * t.size ∧
      (all.toArray ++ Builtin.zeroCells z.cells (grownCap w (n + m) old e - (n + m))).toList.take ((n + m) * t.size) = all := by
    intro old all ho hal
    have hge := grownCap_ge w (n + m) old e
    constructor
    · simp only [Array.size_append, List.size_toArray, size_zeroCells, hzs, hal, ← Nat.add_mul]
      congr 1; omega
    · simp only [Array.toList_append]
      rw [← hal]
      exact List.take_left
  rcases ho with ⟨⟨ad0, rfl⟩, rfl, rfl⟩ | ⟨g, cap, cur, e', hQ, rfl, hg, hnc, hcm, hcs, rfl⟩
  · by_cases hm0 : m = 0
    · subst hm0
      refine ⟨.slice ad0 0 0, w, ?_, .none ad0 rfl rfl rfl⟩
      cases ad0 <;> cases ad <;> simp [Builtin.append_, run_underlying hu, sizeOf, typeInfo, hi, Builtin.lenOf, Builtin.firstCells, loadCells, loadCellsFrom, storeCells]
    · obtain ⟨b, off, rfl, hc⟩ := hm hm0
      have hr : (Builtin.append_ #[T, T] ty #[.slice ad0 0 0, .slice (some ⟨b, off, none⟩) m (m + r)]).run P w = .ok (.slice (some ⟨w.heap.size, 0, none⟩) m (grownCap w m 0 e)) (w.drew.alloc (.cells (news.toArray ++ Builtin.zeroCells z.cells (grownCap w m 0 e - m)) e)) := by
        cases ad0 with
        | none =>
          have hr := run_append_nil (P := P) w T ty e i z hu hi hz ⟨b, off, none⟩ m (m + r) news (by rw [hsz]; exact hl) (hnewsa hc) (by omega) (by omega) (by simp only [Nat.zero_add] at hbytes; omega)
          simpa only [Nat.zero_add] using hr
        | some ad0 =>
          have hr := run_append_grow (P := P) w T ty e i z hu hi hz ad0 0 0 [] (by simp) (by simp) ⟨b, off, none⟩ m (m + r) news (by rw [hsz]; exact hl) (hnewsa hc) (by omega) (by omega) (growslice_fits (by omega) hbytes)
          simpa only [Nat.zero_add, List.append_toArray, List.nil_append] using hr
      simp only [Nat.zero_add] at hrow hr
      obtain ⟨q1, q2⟩ := hrow 0 news (by omega) hl
      have hcm := grownCap_le_maxLen w m 0 e (by simpa using h63)
      refine ⟨_, _, hr, ?_⟩
      have := Grown.grown (Q := Q) (w := w) (size := t.size) (sv := .slice ad0 0 0) (n := 0) (m := m) (all := news) (e := e) (grownCap w m 0 e) _ (by have := grownCap_ge w m 0 e; omega) hcm q1 (by simpa using q2)
      simpa using this
  · have hol : (cur.toList.take (n * t.size)).length = n * t.size := by
      have : cur.toList.length = cap * t.size := by simpa using hcs
      rw [List.length_take, this]
      exact Nat.min_eq_left (Nat.mul_le_mul_right _ hnc)
    have hal : (cur.toList.take (n * t.size) ++ news).length = (n + m) * t.size := by rw [List.length_append, hol, hl, Nat.add_mul]
    by_cases hroom : n + m ≤ cap
    · have hfit : n * i.size + news.length ≤ cur.size := by rw [hl, hcs, hsz, ← Nat.add_mul]; exact Nat.mul_le_mul_right _ hroom
      have hst := run_storeCells_at P g (n * i.size) e' news 0 cur w hg (by simpa using hfit) h1
      simp only [Nat.add_zero] at hst
      have hf : (Builtin.firstCells i.size m (.slice ad m (m + r))).run P w = .ok news.toArray w := by
        by_cases hm0 : m = 0
        · subst hm0
          have : news = [] := List.eq_nil_of_length_eq_zero (by simpa using hl)
          subst this
          cases ad <;> simp [Builtin.firstCells, loadCells, loadCellsFrom]
        · obtain ⟨b, off, rfl, hc⟩ := hm hm0
          exact run_firstCells_some (P := P) w i.size m ⟨b, off, none⟩ m (m + r) news (by rw [hsz]; exact hl) (hnewsa hc)
      refine ⟨.slice (some ⟨g, 0, none⟩) (n + m) cap, _, ?_, .room g cap (cur.toList.take (n * i.size) ++ news ++ cur.toList.drop (n * i.size + news.length)).toArray cur e' hQ hg hcm rfl hroom ?_ ?_⟩
      · simp [Builtin.append_, run_underlying hu, sizeOf, typeInfo, hi, Builtin.lenOf, hroom, hf, Addr.add_lit, hst]
      · simp only [List.size_toArray, List.length_append, List.length_take, List.length_drop, Array.length_toList]
        rw [← hcs]; omega
      · rw [hsz, ← hal]
        exact List.take_left
    · have hm0 : m ≠ 0 := by omega
      obtain ⟨b, off, rfl, hc⟩ := hm hm0
      have holds : ∀ j u, (cur.toList.take (n * t.size))[j]? = some u → w.cell? ((⟨g, 0, none⟩ : Addr).add j) = some u := by
        intro j u hj
        rw [addr_add, cell_row hg]
        rw [List.getElem?_take] at hj
        split at hj
        · simpa using hj
        · simp at hj
      have hr := run_append_grow (P := P) w T ty e i z hu hi hz ⟨g, 0, none⟩ n cap (cur.toList.take (n * t.size)) (by rw [hsz]; exact hol) holds ⟨b, off, none⟩ m (m + r) news (by rw [hsz]; exact hl) (hnewsa hc) (by omega) (by omega) (growslice_fits (by omega) hbytes)
      obtain ⟨q1, q2⟩ := hrow cap (cur.toList.take (n * t.size) ++ news) (by omega) hal
      have hcm := grownCap_le_maxLen w (n + m) cap e h63
      have e0 : (cur.toList.take (n * t.size)).toArray ++ news.toArray = (cur.toList.take (n * t.size) ++ news).toArray := by simp
      rw [e0] at hr
      exact ⟨_, _, hr, .grown (grownCap w (n + m) cap e) _ (grownCap_ge w (n + m) cap e) hcm q1 q2⟩

theorem Rep.flat {R R' : Nat → Nat → Prop} {w w' : World} : ∀ {t : Ty} {x : t.den} {cs : List Value}, t.flat = true → Rep R w t x cs → Rep R' w' t x cs
  | .unit, _, _, _, h => h
  | .int _, _, _, _, h => h
  | .bool, _, _, _, h => h
  | .str, _, _, _, h => h
  | .arr _ _, _, _, _, h => h
  | .sl _ _, _, _, hf, _ => by simp [Ty.flat] at hf
  | .prod a b, x, cs, hf, ⟨c1, c2, e, h1, h2⟩ => by
      simp [Ty.flat] at hf
      exact ⟨c1, c2, e, Rep.flat hf.1 h1, Rep.flat hf.2 h2⟩
  | .opq, x, _, _, _ => nomatch x
  | .ifc, x, _, _, _ => nomatch x

/-- The run of a builtin. -/
theorem builtin_run {b : Builtin} {cl : Call} (ho : o.op = .call cl) (hc : cl.callee = .builtin b) {ρ : Operand → Value} {w : World} :
    ∃ consts, (execOp ρ o).run P w = (builtin b cl.argTypes o.type consts (cl.args.map ρ)).run P w := by
  refine ⟨cl.args.map fun | .const _ => true | _ => false, ?_⟩
  simp [execOp, ho, resolve, hc, invoke]
  rfl

def TRv (c : Cx) : List V → List Value → Prop
  | [], [] => True
  | v :: vs, x :: xs => TR c v x ∧ TRv c vs xs
  | _, _ => False

theorem evs_sound (h : Rel Mu nt S c a) : ∀ {xs : List Operand} {vs : List V}, (evs xs).run S = some vs → TRv c vs (xs.map a.eval)
  | [], vs, hr => by simp [evs] at hr; subst hr; trivial
  | x :: xs, vs, hr => by
      simp only [evs, run_bind_some, run_ret, Option.some.injEq] at hr
      obtain ⟨v, h1, vs', h2, rfl⟩ := hr
      exact ⟨ev_sound h h1, evs_sound h h2⟩

theorem TRv.two {x y : V} {l : List Value} (h : TRv c [x, y] l) : ∃ a b, l = [a, b] ∧ TR c x a ∧ TR c y b := by
  match l, h with
  | [a, b], ⟨h1, h2, _⟩ => exact ⟨a, b, rfl, h1, h2⟩
theorem TRv.one {x : V} {l : List Value} (h : TRv c [x] l) : ∃ a, l = [a] ∧ TR c x a := by
  match l, h with
  | [a], ⟨h1, _⟩ => exact ⟨a, rfl, h1⟩

theorem args_two {args : Array Operand} {ρ : Operand → Value} {x y : Value} (h : args.toList.map ρ = [x, y]) : args.map ρ = #[x, y] := by
  apply Array.ext'; simpa using h
theorem args_one {args : Array Operand} {ρ : Operand → Value} {x : Value} (h : args.toList.map ρ = [x]) : args.map ρ = #[x] := by
  apply Array.ext'; simpa using h

theorem append_home (hT : TabOk P E.tab) (hMu : ∀ b, c.w.heap.size ≤ b → Mu b) (h : Rel Mu nt S c a) {d : Nat} (hd : o.dst = some d) (hdn : d < nt) (hu : S (.obj d) = .undef) {T e : TypeId} {t : Ty} (hte : P.underlying T = some (.slice e)) (hk : TyOk P E.tab e t) (hz : 0 < t.size) (hg : t.good = true)
    {f : Bool} {l : List t.den} {ks : List Nat} {k : Tk (List t.den)} {sv xv : Value} {ad : Option Addr} {r : Nat} {olds news : List Value}
    (hown : OwnRow (fun g => (f = true → c.N g) ∧ (Mu g ∧ ∀ o, ¬ c.R g o) ∧ ∀ n, n ∉ ks → (c.ρ n).blk ≠ some g) c.w t.size sv l.length olds)
    (holds : RepL (Rep (c.Rf f) c.w t) l olds) (hx : xv = .slice ad k.x.length (k.x.length + r)) (hnews : RepL (Rep (c.Rf k.fr) c.w t) k.x news)
    (hm : k.x ≠ [] → ∃ b o, ad = some ⟨b, o, none⟩ ∧ ∀ j u, news[j]? = some u → c.w.cell? ⟨b, o + j, none⟩ = some u) (hb : l.length + k.x.length ≤ sizeMax)
    (hrun : ∀ out w', (Builtin.append_ #[T, T] o.type #[sv, xv]).run P c.w = .ok out w' → (execOp a.eval o).run P c.w = .ok (.value out) w') :
    OpOk P Mu nt S c a o ((.tmp d, .own d) :: (.obj d, .arrc (f && (t.flat || k.fr)) t (l ++ k.x)) :: kills ks) := by
  have hlen := RepL.length (fun x cs => Rep.length t x cs) hnews
  have h1 : ∀ u ∈ news, u.oneCell' = true := by
    have : ∀ {l : List t.den} {cs : List Value}, RepL (Rep (c.Rf k.fr) c.w t) l cs → ∀ u ∈ cs, u.oneCell' = true := by
      intro l
      induction l with
      | nil => intro cs h; simp only [RepL] at h; subst h; simp
      | cons x l ih =>
        rintro cs ⟨c1, c2, rfl, h1, h2⟩ u hu
        rcases List.mem_append.1 hu with hu | hu
        · exact Rep.oneCell t _ _ h1 u hu
        · exact ih h2 u hu
    exact this hnews
  obtain ⟨out, w', hr, hgr⟩ := append_run hte hk c.w o.type hown hx hlen (fun hne => hm (by rintro hh; rw [hh] at hne; exact hne rfl)) h1 hb
  have hall : RepL (Rep (c.Rf (f && (t.flat || k.fr))) c.w t) (l ++ k.x) (olds ++ news) := by
    refine RepL.append (holds.mono fun x cs hh => Rep.weaken (by simp; exact fun h _ => h) hh) (hnews.mono fun x cs hh => ?_)
    by_cases hfl : t.flat = true
    · exact Rep.flat hfl hh
    · exact Rep.weaken (by simp [hfl]) hh
  have hlk : (l ++ k.x).length = l.length + k.x.length := by simp
  -- the row in its new home
  have fin : ∀ (r : Ref) (w' : World), out = out → (∀ b t, r ≠ .var b t) → (∀ b, r.blk = some b → Mu b ∧ ∀ o, ¬ c.R b o) → (∀ b n, r.blk = some b → n ∉ ks → (c.ρ n).blk ≠ some b) →
      (∀ k, r.blk ≠ some k → k < c.w.heap.size → w'.heap[k]? = c.w.heap[k]?) → c.w.heap.size ≤ w'.heap.size → w'.os = c.w.os → w'.tape = c.w.tape → w'.output = c.w.output →
      (Later c (c.home d ks r w') → ObjR (c.home d ks r w') (.arrc (f && (t.flat || k.fr)) t (l ++ k.x)) r) → RefOwn r out →
      (execOp a.eval o).run P c.w = .ok (.value out) w' → OpOk P Mu nt S c a o ((.tmp d, .own d) :: (.obj d, .arrc (f && (t.flat || k.fr)) t (l ++ k.x)) :: kills ks) := by
    intro r w' _ p1 p2 p3 p4 p5 q1 q2 q3 p6 p7 p8
    obtain ⟨o1, l1⟩ := h.objs.home hu (ks := ks) p1 p2 p3 p4 p5 p6
    refine OpOk.go (c' := c.home d ks r w') hd hdn (h.objs' l1 (fun t => by rw [St.set_other _ _ _ _ (by simp), kills_tmp]) o1) ⟨l1, p5, fun _ _ h => .inl h, fun b hb hmu => p4 b (fun hh => hmu (p2 b hh).1) hb, q1, q2, q3⟩ (x := out) p8 ?_ rfl
    simp only [TR, TR1, CR]
    refine ⟨_, rfl, ?_⟩
    have : (c.home d ks r w').ρ d = r := by simp [Cx.home]
    rw [this]; exact p7
  have hrun' := hrun _ _ hr
  cases hgr with
  | none ad0 h2 h3 h4 =>
    have hl0 : l = [] := List.eq_nil_of_length_eq_zero h3
    have hk0 : k.x = [] := List.eq_nil_of_length_eq_zero h4
    refine fin (.arr none t 0 0) c.w rfl (by simp) (by simp [Ref.blk]) (by simp [Ref.blk]) (fun _ _ _ => rfl) (Nat.le_refl _) rfl rfl rfl (fun _ => ⟨rfl, hg, hz, by rw [hl0, hk0]; rfl, rfl, rfl⟩) ⟨_, rfl⟩ hrun'
  | room g cap row cur e' hQ hgg hcm h2 h3 h4 h5 =>
    obtain ⟨k1, k2, k3⟩ := hQ
    · refine fin (.arr (some g) t (l.length + k.x.length) cap) (c.w.setRow g row) rfl (by simp) ?_ ?_ ?_ (by simp) rfl rfl rfl ?_ rfl hrun'
      · intro b hb; simp [Ref.blk] at hb; subst hb; exact k2
      · intro b n hb; simp [Ref.blk] at hb; subst hb; exact k3 n
      · intro k hk _; exact setRow_other _ _ _ _ (by rintro rfl; exact hk rfl)
      · intro hl
        refine ⟨rfl, hg, hz, hlk.symm, h3, hcm, fun hff => k1 (by simp at hff; exact hff.1), row, e', store_row hgg _, h4, ?_⟩
        rw [h5]
        exact hall.mono (Rep.later (hl.moref _) (hl.memf _) t)
  | grown cap row h2 h3 h4 h5 =>
    refine fin (.arr (some c.w.heap.size) t (l.length + k.x.length) cap) (c.w.drew.alloc (.cells row e)) rfl (by simp) ?_ ?_ ?_ ?_ rfl rfl rfl ?_ rfl hrun'
    · intro b hb; simp [Ref.blk] at hb; subst hb
      exact ⟨hMu _ (Nat.le_refl _), fun o hR => Nat.lt_irrefl _ (h.objs.rlt _ o hR)⟩
    · intro b n hb _ hbn; simp [Ref.blk] at hb; subst hb
      exact Nat.lt_irrefl _ (h.objs.blk_lt hbn)
    · intro k _ hk; exact heap_alloc_old c.w.drew _ k hk
    · simp
    · intro hl
      refine ⟨rfl, hg, hz, hlk.symm, h2, h3, fun _ => h.objs.base _ (Nat.le_refl _), row, e, heap_alloc_new c.w.drew _, h4, ?_⟩
      rw [h5]
      exact hall.mono (Rep.later (hl.moref _) (hl.memf _) t)

theorem appendV_sound (hT : TabOk P E.tab) (hMu : ∀ b, c.w.heap.size ≤ b → Mu b) (h : Rel Mu nt S c a) {d : Nat} (hd : o.dst = some d) (hdn : d < nt) {T : TypeId} {s x : V} {sv xv : Value} (hs : TR c s sv) (hx : TR c x xv)
    (hr : (appendV E d T s x).run S = some δ) (hrun : ∀ out w', (Builtin.append_ #[T, T] o.type #[sv, xv]).run P c.w = .ok out w' → (execOp a.eval o).run P c.w = .ok (.value out) w') : OpOk P Mu nt S c a o δ := by
  simp only [appendV] at hr
  cases ht : E.tab T with
  | none => simp [ht] at hr
  | some tt =>
    cases tt <;> simp only [ht, run_fail, reduceCtorEq] at hr
    rename_i md t
    have hkT := hT T _ ht
    obtain ⟨e, he1, he2⟩ := hkT.desc
    have hk := hT e _ he2
    have hg := hkT.good
    simp [Ty.good] at hg
    have hg1 := hg.1.2
    have hz := hg.2
    cases s <;> simp only [run_fail, reduceCtorEq, run_bind_some, run_newN_some, run_need_some, run_ret, Option.some.injEq, run_get] at hr
    case nils =>
      obtain ⟨k, hk1, hu, hb, rfl⟩ := hr
      obtain ⟨ad, r, es, hxe, hres, hm⟩ := takeSl_cells h.objs hk1 hx
      have := append_home (f := true) (l := []) (ks := []) hT hMu h hd hdn hu he1 hk hz hg1 (sv := sv) (olds := []) (.inl ⟨⟨_, hs.nils⟩, rfl, rfl⟩) rfl hxe hres hm (by simpa using of_decide_eq_true hb) hrun
      exact this
    case own m =>
      have hob := h.objs.obj m
      have hso := hs.own
      cases hS : S (.obj m) <;> rw [hS] at hr hob <;> simp only [run_fail, reduceCtorEq] at hr
      rename_i f t' l
      split at hr
      · rename_i et
        subst et
        simp only [run_bind_some, run_newN_some, run_need_some, run_ret, Option.some.injEq, castL_rfl] at hr
        obtain ⟨k, hk1, hu, hb, rfl⟩ := hr
        obtain ⟨ad, r, es, hxe, hres, hm⟩ := takeSl_cells h.objs hk1 hx
        have hb : l.length + k.x.length ≤ sizeMax := of_decide_eq_true hb
        cases hρ : c.ρ m <;> rw [hρ] at hob hso <;> try exact hob.elim
        rename_i b t'' len cap
        cases b with
        | none =>
          obtain ⟨rfl, _, _, rfl, rfl, rfl⟩ := hob
          exact append_home (f := f) (l := []) (ks := [m]) hT hMu h hd hdn hu he1 hk hz hg1 (sv := sv) (olds := []) (.inl ⟨hso, rfl, rfl⟩) rfl hxe hres hm hb hrun
        | some b =>
          obtain ⟨rfl, _, _, rfl, h1, h2, h3, cells, e', hbb, hsz, hrep⟩ := hob
          have hblk : (c.ρ m).blk = some b := by rw [hρ]; rfl
          exact append_home (f := f) (l := l) (ks := [m]) hT hMu h hd hdn hu he1 hk hz hg1 (sv := sv) (olds := _) (.inr ⟨b, cap, cells, e', ⟨h3, h.objs.free m b hblk, fun n hn hbn => hn (by simp [h.objs.apart n m b hbn hblk])⟩, hso, hbb, h1, h2, hsz, rfl⟩) hrep hxe hres hm hb hrun
      · simp at hr

/-- Nothing of a slice. -/
theorem op_slice0 (hT : TabOk P E.tab) (h : Rel Mu nt S c a) {d : Nat} (hd : o.dst = some d) (hdn : d < nt) {T : TypeId} {x hi mx : Operand} {lo : Option Operand} (ho : o.op = .slice T x lo (some hi) (some mx)) {v : V}
    (hv : (ev x).run S = some v) (h1 : (bound 0 lo).run S = some 0) (h2 : (bound 0 (some hi)).run S = some 0) (h3 : (bound 0 (some mx)).run S = some 0) (hr : (emptyV E d T v).run S = some δ) : OpOk P Mu nt S c a o δ := by
  simp only [emptyV] at hr
  cases ht : E.tab T with
  | none => simp [ht] at hr
  | some tt =>
    cases tt <;> simp only [ht, run_fail, reduceCtorEq] at hr
    rename_i md t
    have hkT := hT T _ ht
    obtain ⟨e, he1, he2⟩ := hkT.desc
    have hk := hT e _ he2
    have hg := hkT.good
    simp [Ty.good] at hg
    have hx := ev_sound h hv
    have hsl : ∃ ad n cap, a.eval x = .slice ad n cap := by
      cases v <;> simp only [run_fail, reduceCtorEq] at hr
      case nils => exact ⟨_, _, _, hx.nils⟩
      case sl f t' l =>
        have := hx.sl
        simp only [Rep] at this
        obtain ⟨_, ad, r, e, _⟩ := this
        simp at e
        exact ⟨_, _, _, e⟩
      case own m => obtain ⟨a1, n, m, e⟩ := hx.own.slice; exact ⟨_, _, _, e⟩
    have hr : (newN d (.ret [(.tmp d, .own d), (.obj d, .arrc true t [])]) : Rd (List (Loc × V))).run S = some δ := by
      cases v <;> first | exact hr | (simp only [run_fail, reduceCtorEq] at hr)
    simp only [run_newN_some, run_ret, Option.some.injEq] at hr
    obtain ⟨hu, rfl⟩ := hr
    obtain ⟨ad, n, cap, hxe⟩ := hsl
    have hb : (Instr.sliceBounds true n cap (lo.map a.eval) (some (a.eval hi)) (some (a.eval mx))).run P c.w = .ok (0, 0, 0) c.w := by
      rcases bound_some h2 with ⟨h, _⟩ | ⟨y, k, e, hy⟩
      · simp at h
      · cases e
        rcases bound_some h3 with ⟨h, _⟩ | ⟨z, k', e, hz⟩
        · simp at h
        · cases e
          obtain ⟨ey, _⟩ := (ev_sound h hy).int
          obtain ⟨ez, _⟩ := (ev_sound h hz).int
          rcases bound_some h1 with ⟨rfl, _⟩ | ⟨w, k'', rfl, hw⟩
          · simp [Instr.sliceBounds, ey, ez, run_sliceBound]
          · obtain ⟨ew, _⟩ := (ev_sound h hw).int
            simp [Instr.sliceBounds, ey, ez, ew, run_sliceBound]
    have hrun : (execOp a.eval o).run P c.w = .ok (.value (.slice ad 0 0)) c.w := by
      simp [execOp, ho, hxe, Instr.sliceAt, Instr.slice, run_underlying he1, hb, hk.size_run]
    obtain ⟨o1, l1⟩ := h.objs.home hu (ks := []) (r := .arr none t 0 0) (w' := c.w) (v := .arrc true t []) (by simp) (by simp [Ref.blk]) (by simp [Ref.blk]) (fun _ _ _ => rfl) (Nat.le_refl _) (fun _ => ⟨rfl, hg.1.2, hg.2, rfl, rfl, rfl⟩)
    refine OpOk.go (c' := c.home d [] (.arr none t 0 0) c.w) hd hdn (h.objs' l1 (fun t => by rw [St.set_other _ _ _ _ (by simp), kills_tmp]) o1) ⟨l1, Nat.le_refl _, fun _ _ h => .inl h, fun b hb hmu => rfl, rfl, rfl, rfl⟩ (x := .slice ad 0 0) hrun ?_ rfl
    simp only [TR, TR1, CR]
    refine ⟨_, rfl, ?_⟩
    have : (c.home d [] (.arr none t 0 0) c.w).ρ d = .arr none t 0 0 := by simp [Cx.home]
    rw [this]; exact ⟨ad, rfl⟩

end
end Go.Eng
