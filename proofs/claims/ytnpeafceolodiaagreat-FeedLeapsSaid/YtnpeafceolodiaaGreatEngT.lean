/- The engine, part T: regions whose order is drawn. -/
import Derived.Test.YtnpeafceolodiaaGreatEngS
namespace Go.Eng
open Go.RowKit

theorem apply_not_mem {l : Loc} : ∀ {δ : List (Loc × V)} {S : St}, l ∉ δ.map (·.1) → S.apply δ l = S l
  | [], _, _ => rfl
  | (k, v) :: δ, S, h => by
      simp at h
      rw [apply_cons, St.set_other _ _ _ _ h.1]
      exact apply_not_mem (by simpa using h.2)
theorem apply_congr {l : Loc} : ∀ {δ : List (Loc × V)} {S S' : St}, S l = S' l → S.apply δ l = S'.apply δ l
  | [], _, _, h => h
  | (k, v) :: δ, S, S', h => by
      rw [apply_cons, apply_cons]
      by_cases e : l = k
      · subst e; rw [St.set_same, St.set_same]
      · rw [St.set_other _ _ _ _ e, St.set_other _ _ _ _ e]; exact apply_congr h
theorem apply_mem {l : Loc} : ∀ {δ : List (Loc × V)} {S S' : St}, l ∈ δ.map (·.1) → S.apply δ l = S'.apply δ l
  | [], _, _, h => by simp at h
  | (k, v) :: δ, S, S', h => by
      rw [apply_cons, apply_cons]
      by_cases e : l = k
      · subst e; rw [St.set_same, St.set_same]
      · rw [St.set_other _ _ _ _ e, St.set_other _ _ _ _ e]
        exact apply_mem (by simpa [e] using h)

/-- Some of the changes, in the order of the text. -/
def SL (f : Nat → Bool) : List (List (Loc × V)) → Nat → St → St
  | [], _, S => S
  | δ :: ds, i, S => SL f ds (i + 1) (if f i then S.apply δ else S)

theorem SL_agree {f g : Nat → Bool} {l : Loc} : ∀ {ds : List (List (Loc × V))} {i : Nat} {S S' : St}, (∀ k δ, ds[k]? = some δ → f (i + k) ≠ g (i + k) → l ∉ δ.map (·.1)) → S l = S' l → SL f ds i S l = SL g ds i S' l
  | [], _, _, _, _, h => h
  | δ :: ds, i, S, S', hk, h => by
      simp only [SL]
      refine SL_agree (fun k δ' hd hne => hk (k + 1) δ' (by simpa using hd) (by rwa [show i + (k + 1) = i + 1 + k by omega])) ?_
      by_cases e : f i = g i
      · rw [e]; split
        · exact apply_congr h
        · exact h
      · have hn : l ∉ δ.map (·.1) := hk 0 δ rfl (by simpa using e)
        split <;> split <;> simp only [apply_not_mem hn, h]

theorem SL_late {g : Nat → Bool} {l : Loc} {δ : List (Loc × V)} (hl : l ∈ δ.map (·.1)) (S0 : St) : ∀ {ds : List (List (Loc × V))} {i j : Nat} {S : St}, ds[j]? = some δ → g (i + j) = true →
    (∀ k δ', j < k → ds[k]? = some δ' → g (i + k) = true → l ∉ δ'.map (·.1)) → SL g ds i S l = S0.apply δ l
  | [], i, j, S, hj, _, _ => by simp at hj
  | δ0 :: ds, i, 0, S, hj, hg, hk => by
      simp at hj; subst hj
      simp only [Nat.add_zero] at hg
      simp only [SL, hg, if_true]
      have : SL g ds (i + 1) (S.apply δ0) l = SL (fun _ => false) ds (i + 1) (S.apply δ0) l :=
        SL_agree (fun k δ' hd hne => hk (k + 1) δ' (by omega) (by simpa using hd) (by rw [show i + (k + 1) = i + 1 + k by omega]; simpa using hne)) rfl
      rw [this]
      have none : ∀ (ds : List (List (Loc × V))) (i : Nat) (S : St), SL (fun _ => false) ds i S = S := by
        intro ds
        induction ds with
        | nil => intros; rfl
        | cons δ ds ih => intro i S; simp only [SL, Bool.false_eq_true, if_false]; exact ih _ _
      rw [none]
      exact apply_mem hl
  | δ0 :: ds, i, j + 1, S, hj, hg, hk => by
      simp only [SL]
      refine SL_late hl S0 (i := i + 1) (j := j) (by simpa using hj) (by rwa [show i + 1 + j = i + (j + 1) by omega]) ?_
      intro k δ' hjk hd hgk
      exact hk (k + 1) δ' (by omega) (by simpa using hd) (by rwa [show i + (k + 1) = i + 1 + k by omega])

theorem SL_add {f g : Nat → Bool} {δ : List (Loc × V)} {ds : List (List (Loc × V))} {j : Nat} {S : St} (hj : ds[j]? = some δ) (hg : g j = true) (hfg : ∀ k, k ≠ j → g k = f k) (hf : f j = false)
    (hk : ∀ k δ', j < k → ds[k]? = some δ' → f k = true → ∀ l ∈ δ.map (·.1), l ∉ δ'.map (·.1)) : SL g ds 0 S = (SL f ds 0 S).apply δ := by
  funext l
  by_cases hl : l ∈ δ.map (·.1)
  · refine SL_late hl _ (i := 0) (j := j) hj (by simpa using hg) ?_
    intro k δ' hjk hd hgk
    refine hk k δ' hjk hd ?_ l hl
    rw [← hfg k (by omega)]; simpa using hgk
  · rw [apply_not_mem hl]
    refine SL_agree (fun k δ' hd hne => ?_) rfl
    have : k = j := Classical.byContradiction fun e => hne (by simpa using hfg k e)
    subst this
    rw [hj] at hd; cases hd; exact hl

theorem freeFrom_spec {bf : List Nat} {i : Nat} {a : List Loc × List Loc} : ∀ {items : List (List Loc × List Loc)} {j : Nat}, freeFrom bf i a j items = true → ∀ k b, items[k]? = some b → (bf.getD (j + k) 0).testBit i = true ∨ apart a b = true
  | [], j, _, k, b, h => by simp at h
  | x :: items, j, h, k, b, hb => by
      simp only [freeFrom, Bool.and_eq_true, Bool.or_eq_true] at h
      cases k with
      | zero => simp at hb; subst hb; exact h.1
      | succ k =>
        have := freeFrom_spec h.2 k b (by simpa using hb)
        rwa [show j + 1 + k = j + (k + 1) by omega] at this

theorem freeOrder_spec {bf : List Nat} : ∀ {items : List (List Loc × List Loc)} {i0 : Nat}, freeOrder bf i0 items = true → ∀ i j a b, i < j → items[i]? = some a → items[j]? = some b → (bf.getD (i0 + j) 0).testBit (i0 + i) = true ∨ apart a b = true
  | [], _, _, i, j, a, b, _, h, _ => by simp at h
  | x :: items, i0, h, 0, 0, a, b, hij, _, _ => by omega
  | x :: items, i0, h, 0, j + 1, a, b, _, ha, hb => by
      simp only [freeOrder, Bool.and_eq_true] at h
      simp at ha; subst ha
      have := freeFrom_spec h.1 j b (by simpa using hb)
      rwa [show i0 + 1 + j = i0 + (j + 1) by omega] at this
  | x :: items, i0, h, i + 1, 0, a, b, hij, _, _ => by omega
  | x :: items, i0, h, i + 1, j + 1, a, b, hij, ha, hb => by
      simp only [freeOrder, Bool.and_eq_true] at h
      have := freeOrder_spec h.2 i j a b (by omega) (by simpa using ha) (by simpa using hb)
      rwa [show i0 + 1 + j = i0 + (j + 1) by omega, show i0 + 1 + i = i0 + (i + 1) by omega] at this

theorem meets_false {a b : List Loc} (h : meets a b = false) {l : Loc} (ha : l ∈ a) : l ∉ b := by
  intro hb
  have : meets a b = true := List.any_eq_true.2 ⟨l, ha, List.any_eq_true.2 ⟨l, hb, by simp [Loc.beq_eq]⟩⟩
  rw [h] at this; simp at this

theorem apart_spec {a b : List Loc × List Loc} (h : apart a b = true) : (∀ l ∈ b.1, l ∉ a.2) ∧ (∀ l ∈ a.2, l ∉ b.2) ∧ (∀ l ∈ a.1, l ∉ b.2) := by
  simp only [apart, Bool.not_eq_true', Bool.or_eq_false_iff] at h
  exact ⟨fun l hl hl' => meets_false h.1.1 hl' hl, fun l hl => meets_false h.1.2 hl, fun l hl => meets_false h.2 hl⟩

theorem testBit_two_pow' (n i : Nat) : (2 ^ n).testBit i = decide (n = i) := Nat.testBit_two_pow

theorem edgeBits_spec (acc : List Nat) (o : Oper) (i : Nat) : (edgeBits acc o).testBit i = true → ∃ e ∈ o.after.toList, Region.binds .any e = true ∧ (i = e.on ∨ (acc.getD e.on 0).testBit i = true) := by
  unfold edgeBits
  have : ∀ (l : List Edge) (s : Nat), (l.foldl (fun s e => bif Region.binds .any e then s ||| 2 ^ e.on ||| acc.getD e.on 0 else s) s).testBit i = true → s.testBit i = true ∨ ∃ e ∈ l, Region.binds .any e = true ∧ (i = e.on ∨ (acc.getD e.on 0).testBit i = true) := by
    intro l
    induction l with
    | nil => intro s h; exact .inl h
    | cons e l ih =>
      intro s h
      rw [List.foldl_cons] at h
      rcases ih _ h with h | ⟨e', h1, h2⟩
      · cases hb : Region.binds .any e with
        | false => simp only [hb, cond_false] at h; exact .inl h
        | true =>
          simp only [hb, cond_true, Nat.testBit_or, Bool.or_eq_true, testBit_two_pow', decide_eq_true_eq] at h
          rcases h with (h | h) | h
          · exact .inl h
          · exact .inr ⟨e, by simp, hb, .inl h.symm⟩
          · exact .inr ⟨e, by simp, hb, .inr h⟩
      · exact .inr ⟨e', by simp [h1], h2⟩
  intro h
  rcases this _ 0 h with h | h
  · simp at h
  · exact h

theorem bfs_pre : ∀ (os : List Oper) (acc : List Nat) (j : Nat), j < acc.length → (bfs os acc).getD j 0 = acc.getD j 0
  | [], acc, j, _ => rfl
  | o :: os, acc, j, h => by
      simp only [bfs]
      rw [bfs_pre os _ j (by simp; omega)]
      simp [List.getD_eq_getElem?_getD, List.getElem?_append_left h]

theorem bfs_spec : ∀ (os : List Oper) (acc : List Nat) (j : Nat) (o : Oper) (i : Nat), os[j]? = some o → ((bfs os acc).getD (acc.length + j) 0).testBit i = true →
    ∃ e ∈ o.after.toList, Region.binds .any e = true ∧ (i = e.on ∨ ((bfs os acc).getD e.on 0).testBit i = true)
  | [], _, j, o, i, h, _ => by simp at h
  | x :: os, acc, 0, o, i, h, hb => by
      simp at h; subst h
      simp only [bfs] at hb ⊢
      rw [bfs_pre os _ _ (by simp)] at hb
      have e0 : (acc ++ [edgeBits acc x]).getD (acc.length + 0) 0 = edgeBits acc x := by simp [List.getD_eq_getElem?_getD]
      rw [e0] at hb
      obtain ⟨e, h1, h2, h3⟩ := edgeBits_spec acc x i hb
      refine ⟨e, h1, h2, h3.imp id fun h3 => ?_⟩
      by_cases hlt : e.on < acc.length
      · rw [bfs_pre os _ _ (by simp; omega)]
        simpa [List.getD_eq_getElem?_getD, List.getElem?_append_left hlt] using h3
      · rw [List.getD_eq_getElem?_getD, List.getElem?_eq_none (by omega)] at h3
        simp at h3
  | x :: os, acc, j + 1, o, i, h, hb => by
      simp only [bfs] at hb ⊢
      refine bfs_spec os _ j o i (by simpa using h) ?_
      rwa [show (acc ++ [edgeBits acc x]).length + j = acc.length + (j + 1) by simp; omega]

section
variable {P : Program} {E : Env} {Mu : Nat → Prop} {nt : Nat} {S : St} {c c' : Cx} {a : Act} {ops : Array Oper}

/-- What a run in the order of the text shows: of each operation what changes, what it looked at, what counts as written. -/
structure Items (E : Env) (ops : Array Oper) (S : St) (items : List (List (Loc × V) × List Loc × List Loc)) : Prop where
  len : items.length = ops.size
  runs : ∀ i o, ops[i]? = some o → ∃ q, items[i]? = some q ∧ gL E ops o (SL (fun k => decide (k < i)) (items.map (·.1)) 0 S) = some (q.1, q.2.1) ∧ q.2.2 = wrOf o q.1
  free : freeOrder (bfs ops.toList []) 0 (items.map (·.2)) = true
  backs : backs ops.toList 0 = true

theorem SL_take : ∀ (ds es : List (List (Loc × V))) (i : Nat) (S : St), SL (fun k => decide (k < i + ds.length)) (ds ++ es) i S = SL (fun _ => true) ds i S
  | [], es, i, S => by
      have : ∀ (es : List (List (Loc × V))) (n : Nat) (S : St), i ≤ n → SL (fun k => decide (k < i)) es n S = S := by
        intro es
        induction es with
        | nil => intros; rfl
        | cons δ es ih =>
          intro n S hn
          simp only [SL, decide_eq_true_eq]
          rw [if_neg (by omega)]
          exact ih _ _ (by omega)
      simpa [SL] using this es i S (Nat.le_refl _)
  | δ :: ds, es, i, S => by
      have h1 : (i < i + (δ :: ds).length) := by simp
      simp only [List.cons_append, SL, decide_eq_true h1, if_true]
      have := SL_take ds es (i + 1) (S.apply δ)
      rwa [show i + 1 + ds.length = i + (δ :: ds).length by simp; omega] at this

theorem SL_snoc : ∀ (ds : List (List (Loc × V))) (δ : List (Loc × V)) (i : Nat) (S : St), SL (fun _ => true) (ds ++ [δ]) i S = (SL (fun _ => true) ds i S).apply δ
  | [], δ, i, S => rfl
  | x :: ds, δ, i, S => by simp only [List.cons_append, SL, if_true]; exact SL_snoc ds δ (i + 1) _

theorem execDraw_items {ω : Type} {z : ω} {K : St → Option ω} : ∀ (os : List Oper) (S0 : St) (done : List (List (Loc × V) × List Loc × List Loc)) (acc : List (List Loc × List Loc)), acc.reverse = done.map (·.2) →
    execDraw E ops os (SL (fun _ => true) (done.map (·.1)) 0 S0) acc K = some z →
    ∃ items : List (List (Loc × V) × List Loc × List Loc), items.length = os.length ∧ (∀ i o, os[i]? = some o → ∃ q, items[i]? = some q ∧ gL E ops o (SL (fun _ => true) ((done ++ items.take i).map (·.1)) 0 S0) = some (q.1, q.2.1) ∧ q.2.2 = wrOf o q.1) ∧
      freeOrder (bfs ops.toList []) 0 ((done ++ items).map (·.2)) = true ∧ backs ops.toList 0 = true ∧ K (SL (fun _ => true) ((done ++ items).map (·.1)) 0 S0) = some z
  | [], S0, done, acc, hacc, h => by
      simp only [execDraw] at h
      split at h
      · rename_i hc
        simp only [Bool.and_eq_true] at hc
        rw [hacc] at hc
        exact ⟨[], rfl, by simp, by simpa using hc.2, hc.1, by simpa using h⟩
      · simp at h
  | o :: os, S0, done, acc, hacc, h => by
      simp only [execDraw, runG_eq] at h
      obtain ⟨q, h1, h2⟩ := Option.bind_eq_some_iff.1 h
      rw [← SL_snoc] at h2
      have e1 : done.map (·.1) ++ [q.1] = (done ++ [(q.1, q.2, wrOf o q.1)]).map (·.1) := by simp
      rw [e1] at h2
      obtain ⟨items, w1, w2, w3, w4, w5⟩ := execDraw_items os S0 (done ++ [(q.1, q.2, wrOf o q.1)]) _ (by simp [hacc]) h2
      refine ⟨(q.1, q.2, wrOf o q.1) :: items, by simp [w1], fun i o' ho => ?_, by simpa using w3, w4, by simpa using w5⟩
      cases i with
      | zero => simp at ho; subst ho; exact ⟨_, rfl, by simpa using h1, rfl⟩
      | succ i =>
        obtain ⟨q', w6, w7, w8⟩ := w2 i o' (by simpa using ho)
        exact ⟨q', by simpa using w6, by simpa using w7, w8⟩

theorem items_of {ω : Type} {z : ω} {K : St → Option ω} (h : execDraw E ops ops.toList S [] K = some z) : ∃ items, Items E ops S items ∧ K (SL (fun _ => true) (items.map (·.1)) 0 S) = some z := by
  obtain ⟨items, w1, w2, w3, w4, w5⟩ := execDraw_items (S0 := S) ops.toList [] [] rfl h
  refine ⟨items, ⟨by simpa using w1, fun i o ho => ?_, by simpa using w3, w4⟩, by simpa using w5⟩
  obtain ⟨q, h1, h2, h3⟩ := w2 i o (by simpa using ho)
  refine ⟨q, h1, ?_, h3⟩
  have hi : i < items.length := (List.getElem?_eq_some_iff.1 h1).1
  have := SL_take ((items.take i).map (·.1)) ((items.drop i).map (·.1)) 0 S
  rw [← List.map_append, List.take_append_drop] at this
  have hl : ((items.take i).map (·.1)).length = i := by simp; omega
  rw [hl, Nat.zero_add] at this
  rw [this]
  simpa using h2

theorem shps_mem : ∀ {δ : List (Loc × V)} {m : Nat}, .obj m ∈ δ.map (·.1) → .obj (shpName + m) ∈ shps δ
  | [], m, h => by simp at h
  | (.obj k, v) :: δ, m, h => by
      simp only [List.map_cons, List.mem_cons, Loc.obj.injEq] at h
      simp only [shps, List.mem_cons, Loc.obj.injEq]
      rcases h with rfl | h
      · exact .inl rfl
      · exact .inr (shps_mem h)
  | (.tmp k, v) :: δ, m, h => by
      simp only [List.map_cons, List.mem_cons, reduceCtorEq, false_or] at h
      exact shps_mem (δ := δ) h

/-- What a store writes keeps its shape. -/
theorem storeV_shape {m : Nat} {p : List Nat} {u : Ty} {v : V} {δ : List (Loc × V)} (h : (storeV m p u v).run S = some δ) : ∃ v' δ', δ = (.obj m, v') :: δ' ∧ shapeV v' = shapeV (S (.obj m)) := by
  simp only [storeV, run_get] at h
  cases hS : S (.obj m) <;> rw [hS] at h <;> try (simp at h; done)
  case obj t x =>
    simp only at h
    split at h
    · split at h
      · split at h
        · simp only [run_ret, Option.some.injEq] at h
          subst h
          exact ⟨_, _, rfl, rfl⟩
        · simp at h
      · simp at h
    · simp at h
  case arrc f t l =>
    simp only at h
    split at h
    · split at h
      · split at h
        · obtain ⟨k, _, h⟩ := run_bind_some.1 h
          obtain ⟨_, h⟩ := run_guard_some.1 h
          split at h
          · obtain ⟨e, _, h⟩ := run_opt_some.1 h
            split at h
            · split at h
              · simp only [run_ret, Option.some.injEq] at h
                subst h
                exact ⟨_, _, rfl, by simp [shapeV]⟩
              · simp at h
            · simp at h
          · simp at h
        · simp at h
      · simp at h
    · simp at h

theorem wrOf_shape {o : Oper} {δ : List (Loc × V)} {rs : List Loc} (h : gL E ops o S = some (δ, rs)) {m : Nat} (hm : .obj m ∈ δ.map (·.1)) (hn : .obj (shpName + m) ∉ wrOf o δ) : shapeV (S.apply δ (.obj m)) = shapeV (S (.obj m)) := by
  unfold wrOf at hn
  simp only [List.mem_append, not_or] at hn
  have hset : ∀ {d : Option Tmp} {v : V}, .obj m ∉ (set? d v).map (·.1) := by
    intro d v; cases d <;> simp [set?]
  cases ho : o.op
  case store T a x =>
    simp only [ho] at hn
    have key : ∀ {δ : List (Loc × V)} {rs : List Loc}, cL E o S = some (δ, rs) → .obj m ∈ δ.map (·.1) → .obj (shpName + m) ∉ shps δ.tail → shapeV (S.apply δ (.obj m)) = shapeV (S (.obj m)) := by
      intro δ rs hc hm hn
      unfold cL at hc
      simp only [ho] at hc
      have hc := runL_run hc
      unfold cop at hc
      simp only [ho, run_bind_some] at hc
      obtain ⟨va, _, vx, _, hc⟩ := hc
      split at hc
      · rename_i m' p t _ _
        obtain ⟨v', δ', rfl, hs⟩ := storeV_shape hc
        simp only [List.map_cons, List.mem_cons, Loc.obj.injEq] at hm
        rcases hm with rfl | hm
        · rw [apply_cons, St.set_same]; exact hs
        · exact (hn (shps_mem hm)).elim
      · simp at hc
    unfold gL at h
    split at h
    · simp at h
    · split at h
      · exact key h hm hn.2
      · split at h
        · split at h
          · split at h
            · cases hc : cL E o S with
              | none => simp [hc] at h
              | some r =>
                simp [hc] at h
                obtain ⟨rfl, rfl⟩ := h
                exact key hc hm hn.2
            · simp at h
              obtain ⟨rfl, rfl⟩ := h
              exact (hset hm).elim
          · simp at h
            obtain ⟨rfl, rfl⟩ := h
            exact (hset hm).elim
          · simp at h
        · simp at h
  all_goals
    simp only [ho] at hn
    exact (hn.2 (shps_mem hm)).elim

theorem SL_cut {h : Nat → Bool} {ds : List (List (Loc × V))} {n : Nat} {δ : List (Loc × V)} (hd : ds[n]? = some δ) (S : St) :
    SL (fun k => h k && decide (k < n + 1)) ds 0 S = if h n then (SL (fun k => h k && decide (k < n)) ds 0 S).apply δ else SL (fun k => h k && decide (k < n)) ds 0 S := by
  cases hn : h n with
  | true =>
    simp only [if_true]
    refine SL_add (j := n) hd (by simp [hn]) (fun k hk => ?_) (by simp) (fun k δ' hk _ hf => ?_)
    · by_cases e : k < n
      · simp [e, Nat.lt_succ_of_lt e]
      · have : ¬ k < n + 1 := by omega
        simp [e, this]
    · simp at hf; omega
  | false =>
    simp only [Bool.false_eq_true, if_false]
    funext l
    refine SL_agree (fun k δ' _ hne => (hne ?_).elim) rfl
    rw [Nat.zero_add]
    by_cases e : k = n
    · subst e; simp [hn]
    · congr 1
      simp only [decide_eq_decide]
      omega

/-- The shape of an object, whatever part of a region has run. -/
theorem shape_any {items : List (List (Loc × V) × List Loc × List Loc)} (hi : Items E ops S items) {m : Nat} {f g : Nat → Bool}
    (hfg : ∀ k x, items[k]? = some x → f k ≠ g k → .obj m ∈ x.1.map (·.1) → .obj (shpName + m) ∉ x.2.2)
    (hf : ∀ k x j y, items[k]? = some x → items[j]? = some y → j < k → f k = true → .obj m ∈ x.1.map (·.1) → .obj (shpName + m) ∉ x.2.2 → .obj m ∈ y.1.map (·.1) → f j = true)
    (hg : ∀ k x j y, items[k]? = some x → items[j]? = some y → j < k → g k = true → .obj m ∈ x.1.map (·.1) → .obj (shpName + m) ∉ x.2.2 → .obj m ∈ y.1.map (·.1) → g j = true) :
    shapeV (SL f (items.map (·.1)) 0 S (.obj m)) = shapeV (SL g (items.map (·.1)) 0 S (.obj m)) := by
  -- what changes the shape
  let ch : Nat → Bool := fun k => match items[k]? with
    | some x => decide (.obj (shpName + m) ∈ x.2.2)
    | none => false
  have hch : ∀ k x, items[k]? = some x → ch k = decide (.obj (shpName + m) ∈ x.2.2) := fun k x hx => by simp only [ch, hx]
  have key : ∀ (n : Nat) (h : Nat → Bool), (∀ k x j y, items[k]? = some x → items[j]? = some y → j < k → h k = true → .obj m ∈ x.1.map (·.1) → .obj (shpName + m) ∉ x.2.2 → .obj m ∈ y.1.map (·.1) → h j = true) →
      shapeV (SL (fun k => h k && decide (k < n)) (items.map (·.1)) 0 S (.obj m)) = shapeV (SL (fun k => (h k && ch k) && decide (k < n)) (items.map (·.1)) 0 S (.obj m)) := by
    intro n
    induction n with
    | zero =>
      intro h _
      congr 1
      refine SL_agree (fun k δ _ hne => (hne ?_).elim) rfl
      simp
    | succ n ih =>
      intro h hh
      cases hx : items[n]? with
      | none =>
        have hge : items.length ≤ n := List.getElem?_eq_none_iff.1 hx
        have e : ∀ p : Nat → Bool, SL (fun k => p k && decide (k < n + 1)) (items.map (·.1)) 0 S = SL (fun k => p k && decide (k < n)) (items.map (·.1)) 0 S := by
          intro p
          funext l
          refine SL_agree (fun k δ hd hne => (hne ?_).elim) rfl
          have : k < items.length := by
            have := (List.getElem?_eq_some_iff.1 hd).1
            simpa using this
          rw [Nat.zero_add]
          congr 1
          simp only [decide_eq_decide]
          omega
        rw [e h, e (fun k => h k && ch k)]
        exact ih h hh
      | some x =>
        have hd : (items.map (·.1))[n]? = some x.1 := by rw [List.getElem?_map, hx]; rfl
        rw [SL_cut hd S (h := h), SL_cut hd S (h := fun k => h k && ch k)]
        cases hn : h n with
        | false => simp only [Bool.false_eq_true, if_false, Bool.false_and]; exact ih h hh
        | true =>
          simp only [if_true, Bool.true_and]
          by_cases ht : .obj m ∈ x.1.map (·.1)
          · by_cases hc : .obj (shpName + m) ∈ x.2.2
            · have hcn : ch n = true := by rw [hch n x hx]; simpa using hc
              simp only [hcn, if_true]
              congr 1
              exact apply_mem ht
            · have hcn : ch n = false := by rw [hch n x hx]; simpa using hc
              simp only [hcn, Bool.false_eq_true, if_false]
              have hlt : n < ops.size := by rw [← hi.len]; exact (List.getElem?_eq_some_iff.1 hx).1
              obtain ⟨q, h1, h2, h3⟩ := hi.runs n ops[n] (by simp [hlt])
              rw [hx] at h1
              cases h1
              have hs := wrOf_shape h2 ht (by rw [← h3]; exact hc)
              have e1 : (SL (fun k => h k && decide (k < n)) (items.map (·.1)) 0 S).apply x.1 (.obj m) = (SL (fun k => decide (k < n)) (items.map (·.1)) 0 S).apply x.1 (.obj m) := apply_mem ht
              rw [e1, hs]
              have e2 := ih (fun _ => true) (fun _ _ _ _ _ _ _ _ _ _ _ => rfl)
              simp only [Bool.true_and] at e2
              rw [e2]
              congr 1
              refine SL_agree (fun k δ hd' hne => fun hm => hne ?_) rfl
              rw [Nat.zero_add] at hne ⊢
              cases hy : items[k]? with
              | none => rw [List.getElem?_map, hy] at hd'; simp at hd'
              | some y =>
                have : y.1 = δ := by rw [List.getElem?_map, hy] at hd'; simpa using hd'
                subst this
                by_cases hk : k < n
                · have hhk := hh n x k y hx hy hk hn ht hc hm
                  simp [hhk]
                · simp [hk]
          · rw [apply_not_mem ht]
            have e1 : (if ch n = true then (SL (fun k => (h k && ch k) && decide (k < n)) (items.map (·.1)) 0 S).apply x.1 else SL (fun k => (h k && ch k) && decide (k < n)) (items.map (·.1)) 0 S) (.obj m) = SL (fun k => (h k && ch k) && decide (k < n)) (items.map (·.1)) 0 S (.obj m) := by
              split
              · exact apply_not_mem ht
              · rfl
            rw [e1]
            exact ih h hh
  have whole : ∀ p : Nat → Bool, SL p (items.map (·.1)) 0 S = SL (fun k => p k && decide (k < items.length)) (items.map (·.1)) 0 S := by
    intro p
    funext l
    refine SL_agree (fun k δ hd hne => (hne ?_).elim) rfl
    have : k < items.length := by
      have := (List.getElem?_eq_some_iff.1 hd).1
      simpa using this
    simp [this]
  rw [whole f, whole g, key items.length f hf, key items.length g hg]
  congr 1
  refine SL_agree (fun k δ hd hne => fun hm => hne ?_) rfl
  rw [Nat.zero_add] at hne ⊢
  cases hy : items[k]? with
  | none => rw [List.getElem?_map, hy] at hd; simp at hd
  | some y =>
    have : y.1 = δ := by rw [List.getElem?_map, hy] at hd; simpa using hd
    subst this
    congr 1
    by_cases e : f k = g k
    · rw [e]
    · have := hfg k y hy e hm
      rw [hch k y hy]
      simp [this]

def lst (listed : Array Bool) (k : Nat) : Bool := listed.getD k false

theorem lst_set {listed : Array Bool} {i : Nat} (hi : i < listed.size) (k : Nat) : lst (listed.setIfInBounds i true) k = if k = i then true else lst listed k := by
  unfold lst
  simp only [Array.getD_eq_getD_getElem?, Array.getElem?_setIfInBounds]
  by_cases e : i = k
  · subst e; simp [hi]
  · rw [if_neg e, if_neg (fun h => e h.symm)]

theorem backs_spec : ∀ (os : List Oper) (n : Nat), backs os n = true → ∀ i o, os[i]? = some o → ∀ e ∈ o.after.toList, Region.binds .any e = true → e.on < n + i
  | [], _, _, i, o, h => by simp at h
  | x :: os, n, hb, 0, o, h => by
      simp only [backs, Bool.and_eq_true, List.all_eq_true] at hb
      simp at h; subst h
      intro e he hbi
      have := hb.1 e he
      simpa [hbi] using this
  | x :: os, n, hb, i + 1, o, h => by
      simp only [backs, Bool.and_eq_true] at hb
      intro e he hbi
      have := backs_spec os (n + 1) hb.2 i o (by simpa using h) e he hbi
      omega

/-- How many are not listed yet. -/
def left (n : Nat) (listed : Array Bool) : Nat := ((List.range n).filter fun i => !lst listed i).length

theorem filter_drop {p p' : Nat → Bool} {i : Nat} : ∀ {l : List Nat}, i ∈ l → p i = true → p' i = false → (∀ k, p' k = true → p k = true) → (l.filter p').length < (l.filter p).length
  | [], h, _, _, _ => by simp at h
  | x :: l, h, h1, h2, h3 => by
      have le : ∀ l : List Nat, (l.filter p').length ≤ (l.filter p).length := by
        intro l
        induction l with
        | nil => simp
        | cons y l ih =>
          simp only [List.filter_cons]
          cases hp : p' y with
          | true => simp [h3 y hp]; exact ih
          | false => cases p y <;> simp <;> omega
      rcases List.mem_cons.1 h with rfl | h
      · simp only [List.filter_cons, h1, h2, if_true]
        simp
        have := le l
        omega
      · have := filter_drop h h1 h2 h3
        simp only [List.filter_cons]
        cases hp : p' x with
        | true => simp [h3 x hp]; exact this
        | false => cases p x <;> simp <;> omega

theorem draw_any {Q : Exit → Act → World → Prop} (hE : EnvOk P E) {items : List (List (Loc × V) × List Loc × List Loc)} (hi : Items E ops S items) : ∀ (fuel : Nat) (listed : Array Bool) (c : Cx) (a : Act), (∀ b, c.w.heap.size ≤ b → Mu b) → listed.size = ops.size →
    left ops.size listed ≤ fuel → (∀ j, lst listed j = true → ∀ i, ((bfs ops.toList []).getD j 0).testBit i = true → lst listed i = true) → Rel Mu E.nt (SL (lst listed) (items.map (·.1)) 0 S) c a →
    (∀ c' a', Rel Mu E.nt (SL (fun _ => true) (items.map (·.1)) 0 S) c' a' → Step Mu c c' → Q .normal a' c'.w) → wpAny P .any ops Q fuel listed a c.w := by
  have fin : ∀ (listed : Array Bool) (c : Cx) (a : Act), (∀ i, i < ops.size → lst listed i = true) → Rel Mu E.nt (SL (lst listed) (items.map (·.1)) 0 S) c a →
      (∀ c' a', Rel Mu E.nt (SL (fun _ => true) (items.map (·.1)) 0 S) c' a' → Step Mu c c' → Q .normal a' c'.w) → Q .normal a c.w := by
    intro listed c a hall h hQ
    refine hQ c a ?_ (Step.refl c)
    have : SL (lst listed) (items.map (·.1)) 0 S = SL (fun _ => true) (items.map (·.1)) 0 S := by
      funext l
      refine SL_agree (fun k δ hd hne => (hne ?_).elim) rfl
      have : k < items.length := by
        have := (List.getElem?_eq_some_iff.1 hd).1
        simpa using this
      rw [Nat.zero_add, hall k (by rw [← hi.len]; exact this)]
    rw [← this]; exact h
  -- when nothing is ready, all is listed
  have all : ∀ listed : Array Bool, listed.size = ops.size → Region.ready .any ops listed = [] → ∀ i, i < ops.size → lst listed i = true := by
    intro listed hsz hr i
    induction i using Nat.strongRecOn with
    | _ i ih =>
      intro hlt
      apply Classical.byContradiction
      intro hn
      have : i ∈ Region.ready .any ops listed := by
        rw [mem_ready]
        refine ⟨?_, ops[i], by simp [hlt], fun e he hbi => ?_⟩
        · have : lst listed i = false := by simpa using hn
          unfold lst at this
          rw [Array.getD_eq_getD_getElem?, Array.getElem?_eq_getElem (by omega)] at this ⊢
          simpa using this
        · have hb := backs_spec ops.toList 0 hi.backs i ops[i] (by simp [hlt]) e (by simpa using he) hbi
          exact ih e.on (by omega) (by omega)
      rw [hr] at this
      simp at this
  intro fuel
  induction fuel with
  | zero =>
    intro listed c a hMu hsz hl hcl h hQ
    have hall : ∀ i, i < ops.size → lst listed i = true := by
      intro i hlt
      apply Classical.byContradiction
      intro hn
      have hm : i ∈ (List.range ops.size).filter fun i => !lst listed i := List.mem_filter.2 ⟨List.mem_range.2 hlt, by simpa using hn⟩
      have : (List.range ops.size).filter (fun i => !lst listed i) = [] := List.eq_nil_of_length_eq_zero (by unfold left at hl; omega)
      rw [this] at hm
      simp at hm
    refine ⟨?_, fin listed c a hall h hQ⟩
    apply List.eq_nil_iff_forall_not_mem.2
    intro i hm
    obtain ⟨h1, o, ho, _⟩ := mem_ready.1 hm
    have hlt : i < ops.size := (Array.getElem?_eq_some_iff.1 ho).1
    have := hall i hlt
    unfold lst at this
    rw [Array.getD_eq_getD_getElem?, Array.getElem?_eq_getElem (by omega)] at this h1
    simp at this h1
    rw [this] at h1; simp at h1
  | succ fuel ih =>
    intro listed c a hMu hsz hl hcl h hQ
    refine ⟨fun hr => fin listed c a (all listed hsz hr) h hQ, fun i hm => ?_⟩
    obtain ⟨h1, o, ho, hedge⟩ := mem_ready.1 hm
    have hlt : i < ops.size := (Array.getElem?_eq_some_iff.1 ho).1
    have hni : lst listed i = false := by
      unfold lst
      rw [Array.getD_eq_getD_getElem?, Array.getElem?_eq_getElem (by omega)] at h1 ⊢
      simpa using h1
    have hbefore : ∀ k, ((bfs ops.toList []).getD i 0).testBit k = true → lst listed k = true := by
      intro k hk
      obtain ⟨e, q1, q2, q3⟩ := bfs_spec ops.toList [] i o k (by simpa using ho) (by simpa using hk)
      have he := hedge e (by simpa using q1) q2
      rcases q3 with rfl | q3
      · exact he
      · exact hcl e.on he k q3
    obtain ⟨⟨δ, rs, wr⟩, hq, hg, hwr⟩ := hi.runs i o ho
    simp only at hg hwr
    have hfree : ∀ j k x y, j < k → items[j]? = some x → items[k]? = some y → ((bfs ops.toList []).getD k 0).testBit j = true ∨ apart x.2 y.2 = true := by
      intro j k x y hjk hx hy
      have := freeOrder_spec hi.free j k _ _ hjk (by rw [List.getElem?_map, hx]; rfl) (by rw [List.getElem?_map, hy]; rfl)
      simpa using this
    have hsub : ∀ {k : Nat} {x : List (Loc × V) × List Loc × List Loc}, items[k]? = some x → ∀ l ∈ x.1.map (·.1), l ∈ x.2.2 := by
      intro k x hx l hl
      have hk : k < ops.size := by rw [← hi.len]; exact (List.getElem?_eq_some_iff.1 hx).1
      obtain ⟨q', h1, _, h3⟩ := hi.runs k ops[k] (by simp [hk])
      rw [hx] at h1
      cases h1
      rw [h3]; exact List.mem_append.2 (.inl hl)
    have hds : ∀ {k : Nat} {δ' : List (Loc × V)}, (items.map (·.1))[k]? = some δ' → ∃ rs' wr', items[k]? = some (δ', rs', wr') := by
      intro k δ' hd
      rw [List.getElem?_map] at hd
      cases hx : items[k]? with
      | none => simp [hx] at hd
      | some x => simp [hx] at hd; exact ⟨x.2.1, x.2.2, by rw [← hd]⟩
    -- where it differs from the order of the text
    have hdiff : ∀ k δ' rs' wr', items[k]? = some (δ', rs', wr') → lst listed k ≠ decide (k < i) → ∀ l ∈ rs, l ∉ wr' := by
      intro k δ' rs' wr' hx hne l hl
      by_cases hki : k < i
      · have hnk : lst listed k = false := by
          cases hh : lst listed k with
          | false => rfl
          | true => rw [hh] at hne; simp [hki] at hne
        rcases hfree k i _ _ hki hx hq with hb | hb
        · rw [hbefore k hb] at hnk; simp at hnk
        · exact (apart_spec hb).1 l hl
      · have hlk : lst listed k = true := by
          cases hh : lst listed k with
          | true => rfl
          | false => rw [hh] at hne; simp [hki] at hne
        have hik : i < k := by
          rcases Nat.lt_or_eq_of_le (Nat.le_of_not_lt hki) with h | h
          · exact h
          · subst h; rw [hni] at hlk; simp at hlk
        rcases hfree i k _ _ hik hq hx with hb | hb
        · rw [hcl k hlk i hb] at hni; simp at hni
        · exact (apart_spec hb).2.2 l hl
    -- what it looks at is as in the order of the text
    have hg' : gL E ops o (SL (lst listed) (items.map (·.1)) 0 S) = some (δ, rs) := by
      refine gL_congr hg ⟨fun l hl => SL_agree (fun k δ' hd hne => ?_) rfl, fun m hm => ?_⟩
      · obtain ⟨rs', wr', hx⟩ := hds hd
        simp only [Nat.zero_add] at hne
        exact fun hh => hdiff k δ' rs' wr' hx hne l hl (hsub hx l hh)
      · refine shape_any hi (f := lst listed) (g := fun k => decide (k < i)) ?_ ?_ ?_
        · intro k x hx hne ht hc
          exact hdiff k x.1 x.2.1 x.2.2 hx hne _ hm hc
        · intro k x j y hx hy hjk hk htk _ htj
          rcases hfree j k _ _ hjk hy hx with hb | hb
          · exact hcl k hk j hb
          · exact ((apart_spec hb).2.1 _ (hsub hy _ htj) (hsub hx _ htk)).elim
        · intro k x j y hx hy hjk hk htk _ htj
          simp only [decide_eq_true_eq] at hk ⊢
          omega
    refine gL_sound hE hMu h hg' ho fun c1 a1 r1 s1 => ?_
    have hadd : SL (lst (listed.setIfInBounds i true)) (items.map (·.1)) 0 S = (SL (lst listed) (items.map (·.1)) 0 S).apply δ := by
      refine SL_add (j := i) (δ := δ) (by rw [List.getElem?_map, hq]; rfl) (by rw [lst_set (by omega)]; simp) (fun k hk => by rw [lst_set (by omega), if_neg hk]) hni ?_
      intro k δ' hik hd hlk l hl
      obtain ⟨rs', wr', hx⟩ := hds hd
      rcases hfree i k _ _ hik hq hx with hb | hb
      · rw [hcl k hlk i hb] at hni; simp at hni
      · exact fun hh => (apart_spec hb).2.1 l (hsub hq l hl) (hsub hx l hh)
    rw [← hadd] at r1
    refine ih (listed.setIfInBounds i true) c1 a1 (fun b hb => hMu b (Nat.le_trans s1.size hb)) (by simpa using hsz) ?_ ?_ r1 fun c' a' h2 s2 => hQ c' a' h2 (s1.trans s2)
    · have : left ops.size (listed.setIfInBounds i true) < left ops.size listed := by
        refine filter_drop (i := i) (List.mem_range.2 hlt) (by simp [hni]) (by rw [lst_set (by omega)]; simp) ?_
        intro k hk
        rw [lst_set (by omega)] at hk
        by_cases e : k = i
        · simp [e] at hk
        · simpa [e] using hk
      omega
    · intro j hj k hk
      rw [lst_set (by omega)] at hj ⊢
      by_cases e : k = i
      · simp [e]
      · rw [if_neg e]
        by_cases ej : j = i
        · subst ej; exact hbefore k hk
        · rw [if_neg ej] at hj; exact hcl j hj k hk

end
end Go.Eng
