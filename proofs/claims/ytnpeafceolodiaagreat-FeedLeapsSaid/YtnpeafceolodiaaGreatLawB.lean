/- Plain law, part B: chains of empty blocks. -/
import Derived.Test.YtnpeafceolodiaaGreatLawA
namespace Go.Eng
open Go.Proofs
set_option linter.unusedVariables false
set_option maxRecDepth 100000

theorem cloneQ_eq {md : Md} {t : Ty} {l : List t.den} (h : l.length ≤ sizeMax) : (cloneQ md t).F ((l, ()) : DP (cloneQ md t).ps) = some ((), ((l, ()) : DR (cloneQ md t).rs)) := if_pos h

theorem put_tot (l : List Int) (v k : Int) (hk : k = 1 ∨ k = 4) (hv0 : 0 ≤ v) (hv : v < 2 ^ (8 * k.toNat)) (hl : l.length ≤ 100) :
    Tot (put BIG Q_cloneB.F Q_room.F l v k) (fun z => (z.2.1.length : Int) = l.length + k) := by
  unfold put
  refine Tot.no (dF (by omega)) <| Tot.no (dF (by omega)) <| Tot.no (dF (by omega)) ?_
  have hr : room BIG k = some ((), (2 ^ (8 * k.toNat), ())) := by
    rcases hk with rfl | rfl <;> rfl
  refine Tot.optE (z := ((), (2 ^ (8 * k.toNat), ()))) hr ?_
  refine Tot.no (dF (by dsimp only; omega)) ?_
  refine Tot.optE (cloneQ_eq (md := .own) (t := .int .u8) (l := l) (by unfold sizeMax; exact Nat.le_trans hl (by omega))) ?_
  rw [wrapI (k - 1) (by omega) (by omega)]
  refine Tot.iter (fun s => -1 ≤ s.2.2.1 ∧ s.2.2.1 ≤ 3 ∧ (s.2.1.length : Int) + s.2.2.1 = l.length + k - 1) (fun s => (s.2.2.1 + 1).toNat) ?_ _ _ ⟨by dsimp only; omega, by dsimp only; omega, by dsimp only; omega⟩ (by dsimp only; unfold BIG; omega)
  rintro ⟨w, m, i, u⟩ ⟨q1, q2, q3⟩ ih hih
  dsimp only at *
  unfold put_l0; dsimp only
  refine Tot.cond (fun hb => ?_) (fun hb => ?_)
  · have hb := of_decide_eq_true hb
    rw [wrapI (8 * i) (by omega) (by omega), wrapI (i - 1) (by omega) (by omega)]
    refine Tot.need (dT (by omega)) <| Tot.need (dT (by simp only [List.length_cons, List.length_nil]; omega)) ?_
    exact hih _ ⟨by dsimp only; omega, by dsimp only; omega, by simp only [List.length_append, List.length_cons, List.length_nil]; omega⟩ (by dsimp only; omega)
  · have hb := of_decide_eq_false hb
    exact .ok (by dsimp only; omega)

/-- An empty block. -/
def blk (p h : Int) : P66 := (p, (h, (0, ([], ()))))
theorem bcheck_ok (p h : Int) (hp : -1 ≤ p) (h1 : 1 ≤ h) (h2 : h ≤ 1048576) : bcheck BIG (blk p h) = some ((), (0, ())) := by
  unfold bcheck blk; dsimp only
  rw [dF (show ¬ p < -1 by omega), dF (show ¬ h < 1 by omega), dF (show ¬ h > 1048576 by omega)]
  rfl

theorem bhash_tot (a : List Int) (p h : Int) (hp : -1 ≤ p) (h1 : 1 ≤ h) (h2 : h ≤ 1048576) :
    Tot (bhash BIG Q_bbytes.F Q_sum.F a (blk p h)) (fun z => z.2.2.1 = 0) := by
  unfold bhash
  have hb : Tot (bbytes BIG Q_bcheck.F Q_put.F Q_putPart.F a (blk p h)) (fun z => z.2.1.length ≤ 100 ∧ z.2.2.1 = 0) := by
    unfold bbytes
    refine Tot.optE (bcheck_ok p h hp h1 h2) ?_
    refine Tot.no rfl ?_
    refine Tot.opt (put_tot [] h 4 (.inr rfl) (by omega) (by show h < 4294967296; omega) (by simp)) fun r2 hr2 => ?_
    refine Tot.opt (put_tot r2.2.1 0 4 (.inr rfl) (by omega) (by show (0 : Int) < 4294967296; omega) (by simp at hr2; omega)) fun r3 hr3 => ?_
    have hc : (cut a (Int.toNat (0 : Int)) (Int.toNat ((32 : Nat) : Int))).length ≤ 32 := by
      rw [cut_length]; show min 32 a.length - 0 ≤ 32; omega
    have h8 : r3.2.1.length = 8 := by simp at hr2; omega
    refine Tot.need (dT (by omega)) ?_
    refine Tot.opt (put_tot _ 0 1 (.inl rfl) (by omega) (by show (0 : Int) < 256; omega) (by rw [List.length_append]; omega)) fun r4 hr4 => ?_
    rw [List.length_append] at hr4
    refine .ok ⟨?_, rfl⟩
    dsimp only; omega
  refine Tot.opt hb fun r1 hr1 => ?_
  refine Tot.no (by rw [hr1.2]; rfl) ?_
  refine Tot.opt (sum_tot _ hr1.1) fun _ _ => .ok rfl

/-- The config: all ends at E, no money. -/
def cfg (E : Int) : P27 := (0, (0, ([E, E, E, E], ([], ()))))
def stE (E h : Int) : P35 := (cfg E, (h, (1, ([], ([], (0, ((true, ([0, 0, 0, 0], ([0, 0, 0, 0], ()))), ())))))))

theorem ctwin_ok (E h : Int) : ctwin BIG Q_cloneI.F Q_cloneDealer.F Q_cloneSeal.F Q_clonePoint.F (stE E h) = some ((), (stE E h, ())) := rfl

theorem iter_one {α ω : Type} (step : (α → Option ω) → α → Option ω) (x : α) : iter step BIG x = step (iter step 999999) x := by
  unfold BIG
  rw [show (1000000 : Nat) = 999999 + 1 from by decide, iter]

theorem pcheck_ok (E : Int) (h0 : 0 ≤ E) (h1 : E ≤ 1048576) : pcheck BIG (cfg E) = some ((), (0, ())) := by
  have ht : Tot (pcheck BIG (cfg E)) (fun z => z = ((), (0, ()))) := by
    unfold pcheck
    refine Tot.no (dF (by show ¬ (0 : Int) < 0; decide)) <| Tot.no (dF (by show ¬ (0 : Int) ≥ 64; decide)) <| Tot.no (dF (by show ¬ (0 : Int) < 0; decide)) <| Tot.no (dF (by show ¬ (0 : Int) > 1099511627776; decide)) <| Tot.no (dF (by show ¬ (((([] : List Int).length : Nat) : Int) > 16); decide)) ?_
    refine Tot.iter (fun s => s.1 ≤ E ∧ s.2.1 = [E, E, E, E] ∧ 0 ≤ s.2.2.1 ∧ s.2.2.1 ≤ 4 ∧ s.2.2.2.1 = cfg E) (fun s => (4 - s.2.2.1).toNat) ?_ _ _ ⟨by dsimp only; omega, rfl, by dsimp only; omega, by dsimp only; omega, rfl⟩ (by dsimp only; unfold BIG; omega)
    rintro ⟨x, l, i, c, u⟩ ⟨hx, hl, hi0, hi1, hc⟩ ih hih
    dsimp only at *
    subst hl; subst hc
    unfold pcheck_l0; dsimp only
    refine Tot.cond (fun hb => ?_) (fun hb => ?_)
    · have hb := of_decide_eq_true hb
      have hg : getI [E, E, E, E] i = some E := by
        have : i = 0 ∨ i = 1 ∨ i = 2 ∨ i = 3 := by omega
        rcases this with rfl | rfl | rfl | rfl <;> rfl
      refine Tot.optE hg ?_
      refine Tot.no (dF (by omega)) <| Tot.no (dF (by omega)) ?_
      rw [wrapI (i + 1) (by omega) (by omega)]
      exact hih _ ⟨Int.le_refl _, rfl, by dsimp only; omega, by dsimp only; omega, rfl⟩ (by dsimp only; omega)
    · rw [iter_one]
      unfold pcheck_l1 cfg; dsimp only
      exact Tot.no (dF (by decide)) (.ok rfl)
  obtain ⟨z, e, rfl⟩ := ht
  exact e

theorem pat_ok (E h : Int) (h0 : 0 ≤ E) (h1 : h ≤ E) : pat BIG (cfg E) h = some ((), (1, ())) := by
  unfold pat
  rw [iter_one]
  unfold pat_l0 cfg; dsimp only
  have hm : maxI h 0 ≤ E := by rw [maxI_eq]; omega
  show (bif decide (E ≥ maxI h 0) then _ else _) = _
  rw [dT (show E ≥ maxI h 0 by omega)]
  rfl

theorem cturn_ok (E h : Int) (h0 : 0 ≤ h) (h1 : h < E) (h2 : E ≤ 1000) :
    cturn BIG Q_ctwin.F Q_pcheck.F Q_pbegins.F Q_cover.F Q_pat.F (stE E h) = some ((), (stE E (h + 1), ())) := by
  have ht : Tot (cturn BIG Q_ctwin.F Q_pcheck.F Q_pbegins.F Q_cover.F Q_pat.F (stE E h)) (fun z => z = ((), (stE E (h + 1), ()))) := by
    unfold cturn
    refine Tot.optE (ctwin_ok E h) ?_
    refine Tot.no (dF (by show ¬ h ≥ 1048576; omega)) ?_
    refine Tot.optE (pcheck_ok E (by omega) (by omega)) ?_
    refine Tot.no rfl ?_
    have hw : IntKind.wrap IntKind.i64 (h + 1) = h + 1 := wrapI _ (by omega) (by omega)
    have hb : pbegins BIG Q_pat.F (cfg E) (h + 1) = some ((), (1, (false, ()))) := by
      have hb' : Tot (pbegins BIG Q_pat.F (cfg E) (h + 1)) (fun z => z = ((), (1, (false, ())))) := by
        unfold pbegins
        refine Tot.optE (pat_ok E (h + 1) (by omega) (by omega)) ?_
        refine Tot.yes (dT (by omega)) ?_
        rw [wrapI (h + 1 - 1) (by omega) (by omega)]
        refine Tot.optE (pat_ok E (h + 1 - 1) (by omega) (by omega)) ?_
        exact .ok rfl
      obtain ⟨z, e, rfl⟩ := hb'
      exact e
    show Tot (Go.Eng.opt (pbegins BIG Q_pat.F (cfg E) (IntKind.wrap IntKind.i64 (h + 1))) _) _
    rw [hw]
    refine Tot.optE hb ?_
    refine Tot.optE (z := ((), (false, ()))) rfl ?_
    refine Tot.no rfl <| Tot.yes rfl ?_
    refine .ok ?_
    show ((), (cfg E, IntKind.wrap IntKind.i64 (h + 1), _), ()) = _
    rw [hw]
    rfl
  obtain ⟨z, e, rfl⟩ := ht
  exact e

theorem lnew_ok (E : Int) (h0 : 0 ≤ E) (h1 : E ≤ 1000) : lnew BIG Q_cnew.F (cfg E) = some ((), (some (stE E 0, ([], (-1, ()))), (0, ()))) := by
  have ht : Tot (cnew BIG Q_ctwin.F Q_pcheck.F Q_pat.F (cfg E)) (fun z => z = ((), (stE E 0, (0, ())))) := by
    unfold cnew
    refine Tot.optE (pcheck_ok E h0 (by omega)) ?_
    refine Tot.no rfl ?_
    refine Tot.optE (pat_ok E 0 h0 h0) ?_
    refine Tot.no rfl ?_
    refine Tot.optE (ctwin_ok E 0) ?_
    exact .ok rfl
  obtain ⟨z, e, rfl⟩ := ht
  have ht : Tot (lnew BIG Q_cnew.F (cfg E)) (fun z => z = ((), (some (stE E 0, ([], (-1, ()))), (0, ())))) := by
    unfold lnew
    refine Tot.optE e ?_
    exact Tot.no rfl (.ok rfl)
  obtain ⟨z, e, rfl⟩ := ht
  exact e

/-- A ledger that holds a chain of n empty blocks. -/
def Ent (E : Int) (i : Nat) (e : P155) : Prop := e.1 = blk ((i : Int) - 1) ((i : Int) + 1) ∧ e.2.2.1 = stE E ((i : Int) + 1)
def Led (E : Int) (n : Nat) (L : P158) : Prop := L.1 = stE E 0 ∧ L.2.1.length = n ∧ (∀ i e, L.2.1[i]? = some e → Ent E i e) ∧ L.2.2.1 = (n : Int) - 1

theorem has_in {E : Int} {n : Nat} {L : P158} (hL : Led E n L) (a : Int) (h0 : 0 ≤ a) (h1 : a < n) : has BIG L a = some ((), (true, ())) := by
  unfold has
  rw [dT (show a ≥ 0 by omega), hL.2.1, dT h1]
  rfl
theorem has_neg (L : P158) (a : Int) (h0 : a < 0) : has BIG L a = some ((), (false, ())) := by
  unfold has
  rw [dF (show ¬ a ≥ 0 by omega)]
  rfl

theorem ltwin_ok (p h : Int) : ltwin BIG Q_cloneTx.F Q_cloneB.F (blk p h) = some ((), (blk p h, ())) := rfl

theorem Led.get {E : Int} {n : Nat} {L : P158} (hL : Led E n L) {a : Int} (h0 : 0 ≤ a) (h1 : a < n) :
    Tot (getI L.2.1 a) (fun e => e.1 = blk (a - 1) (a + 1) ∧ e.2.2.1 = stE E (a + 1) ∧ L.2.1[a.toNat]? = some e) := by
  refine (Tot.getI h0 (by rw [hL.2.1]; exact h1)).mono fun e he => ?_
  have := hL.2.2.1 _ _ he
  unfold Ent at this
  rw [Int.toNat_of_nonneg h0] at this
  exact ⟨this.1, this.2, he⟩

theorem ladd_end {E : Int} {n : Nat} {L : P158} (hL : Led E n L) (hn : n < 1000) (hs r) :
    Tot (iter (ladd_l0 BIG Q_cturn.F Q_has.F Q_ltwin.F Q_bcheck.F Q_bhash.F Q_lbetter.F) BIG (([] : List P74), ((((([] : List P74).length : Nat) : Int)), ((0 : Int), ((blk ((n : Int) - 1) ((n : Int) + 1), (hs, (stE E ((n : Int) + 1), (r, ())))), (L, ()))))))
      (fun z => Led E (n + 1) z.1.1 ∧ z.2.2.1 = 0) := by
  rw [iter_one]
  unfold ladd_l0; dsimp only
  obtain ⟨b, es, hd, u⟩ := L
  obtain ⟨q1, q2, q3, q4⟩ := hL
  dsimp only at *
  generalize he : ((blk ((n : Int) - 1) ((n : Int) + 1), (hs, (stE E ((n : Int) + 1), (r, ()))) ) : P155) = e
  have hE : Ent E n e := by subst he; exact ⟨rfl, rfl⟩
  have hlen : (es ++ [e]).length = n + 1 := by rw [List.length_append, q2]; rfl
  have hget : ∀ i x, (es ++ [e])[i]? = some x → Ent E i x := by
    intro i x hx
    by_cases hi : i < n
    · rw [List.getElem?_append_left (by omega)] at hx
      exact q3 _ _ hx
    · rw [List.getElem?_append_right (by omega)] at hx
      have : i = n := by
        by_cases h : i = n
        · exact h
        · rw [List.getElem?_eq_none (by simp; omega)] at hx; cases hx
      subst this
      rw [q2, Nat.sub_self] at hx
      simp only [List.getElem?_cons_zero, Option.some.injEq] at hx
      exact hx ▸ hE
  refine Tot.no rfl ?_
  refine Tot.need (dT (by simp only [List.length_cons, List.length_nil]; omega)) ?_
  have hw : IntKind.wrap IntKind.i64 ((((es ++ [e]).length : Nat) : Int) - 1) = n := by rw [hlen, wrapI _ (by omega) (by omega)]; omega
  rw [hw]
  have hbt : Tot (lbetter BIG (b, (es ++ [e], (hd, u))) n) (fun z => z.2.1 = true) := by
    unfold lbetter; dsimp only
    refine Tot.cond (fun _ => .ok rfl) (fun hb => ?_)
    have hb := of_decide_eq_false hb
    have hLe : ∀ i : Int, 0 ≤ i → i < n + 1 → Tot (getI (es ++ [e]) i) (fun x => x.1.2.1 = i + 1) := by
      intro i h0 h1
      refine (Tot.getI h0 (by rw [hlen]; omega)).mono fun x hx => ?_
      have := hget _ _ hx
      rw [this.1, Int.toNat_of_nonneg h0]; rfl
    refine Tot.opt (hLe n (by omega) (by omega)) fun r1 hr1 => ?_
    refine Tot.opt (hLe hd (by omega) (by omega)) fun r2 hr2 => ?_
    refine Tot.yes (dT (by rw [hr1, hr2]; omega)) (.ok rfl)
  refine Tot.opt hbt fun r9 h9 => ?_
  refine Tot.yes h9 ?_
  refine .ok ⟨⟨q1, hlen, hget, ?_⟩, rfl⟩
  dsimp only; omega

theorem ladd_ok {E : Int} {n : Nat} {L : P158} (hL : Led E n L) (hn : (n : Int) < E) (hE : E ≤ 1000) :
    Tot (ladd BIG Q_cturn.F Q_has.F Q_ltwin.F Q_bcheck.F Q_bhash.F Q_lbetter.F L (blk ((n : Int) - 1) ((n : Int) + 1))) (fun z => Led E (n + 1) z.1.1 ∧ z.2.2.1 = 0) := by
  unfold ladd
  refine Tot.optE (bcheck_ok _ _ (by omega) (by omega) (by omega)) ?_
  refine Tot.no rfl ?_
  by_cases h0 : n = 0
  · refine Tot.optE (has_neg L ((n : Int) - 1) (by omega)) ?_
    refine Tot.no rfl <| Tot.no (by show ((n : Int) - 1 != -1) = false; rw [h0]; rfl) <| Tot.no (by show ((n : Int) + 1 != IntKind.wrap IntKind.i64 (0 + 1)) = false; rw [h0]; rfl) ?_
    refine Tot.no (dF (by rw [hL.2.1]; omega)) ?_
    refine Tot.opt (bhash_tot _ _ _ (by omega) (by omega) (by omega)) fun r hr => ?_
    refine Tot.no (by rw [hr]; rfl) ?_
    refine Tot.optE (ltwin_ok _ _) ?_
    rw [show L.1 = stE E 0 from hL.1]
    refine Tot.optE (cturn_ok E 0 (by omega) (by omega) hE) ?_
    have hz : stE E (0 + 1) = stE E ((n : Int) + 1) := by rw [h0]; rfl
    rw [hz]
    exact ladd_end hL (by omega) _ _
  · refine Tot.optE (has_in hL ((n : Int) - 1) (by omega) (by omega)) ?_
    refine Tot.yes rfl ?_
    refine Tot.need (inS_of (by show 0 ≤ (n : Int) - 1; omega) (by rw [hL.2.1]; show (n : Int) - 1 < n; omega)) ?_
    obtain ⟨e, _, e1, e2, e3⟩ := hL.get (a := (n : Int) - 1) (by omega) (by omega)
    refine Tot.optE (z := e) e3 ?_
    refine Tot.yes (by show ((n : Int) - 1 != -1) = true; rw [bne_iff_ne]; omega) ?_
    refine Tot.optE (has_in hL ((n : Int) - 1) (by omega) (by omega)) ?_
    refine Tot.no rfl ?_
    have hh : IntKind.wrap IntKind.i64 (e.1.2.1 + 1) = (n : Int) + 1 := by
      rw [e1]
      show IntKind.wrap IntKind.i64 ((n : Int) - 1 + 1 + 1) = _
      rw [wrapI _ (by omega) (by omega)]; omega
    refine Tot.no (by show ((n : Int) + 1 != IntKind.wrap IntKind.i64 (e.1.2.1 + 1)) = false; rw [hh]; simp) ?_
    refine Tot.no (dF (by rw [hL.2.1]; omega)) ?_
    refine Tot.opt (bhash_tot _ _ _ (by omega) (by omega) (by omega)) fun r hr => ?_
    refine Tot.no (by rw [hr]; rfl) ?_
    refine Tot.optE (ltwin_ok _ _) ?_
    rw [e2]
    refine Tot.optE (cturn_ok E ((n : Int) - 1 + 1) (by omega) (by omega) hE) ?_
    rw [show (n : Int) - 1 + 1 + 1 = (n : Int) + 1 by omega]
    exact ladd_end hL (by omega) _ _
end Go.Eng
