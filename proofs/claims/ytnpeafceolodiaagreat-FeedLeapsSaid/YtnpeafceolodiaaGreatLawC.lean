/- Plain law, part C: feeds along one chain. -/
import Derived.Test.YtnpeafceolodiaaGreatLawB
namespace Go.Eng
open Go.Proofs
set_option linter.unusedVariables false
set_option maxRecDepth 100000

def up (m : Nat) : List Int := (List.range m).map (fun (i : Nat) => (i : Int))
theorem up_length (m : Nat) : (up m).length = m := by simp [up]
theorem up_get {m i : Nat} (h : i < m) : (up m)[i]? = some (i : Int) := by simp [up, h]
theorem up_of {m i : Nat} {v : Int} (h : (up m)[i]? = some v) : v = i ∧ i < m := by
  by_cases hi : i < m
  · rw [up_get hi] at h; cases h; exact ⟨rfl, hi⟩
  · rw [List.getElem?_eq_none (by rw [up_length]; omega)] at h; cases h
theorem up_take (m k : Nat) : (up m).take k = up (min k m) := by
  unfold up
  rw [← List.map_take, List.take_range]

theorem reverseI_ok (l : List Int) (hl : l.length ≤ 100000) : reverseI BIG l = some ((l.reverse, ()), ()) := by
  have ht : Tot (reverseI BIG l) (fun z => z = ((l.reverse, ()), ())) := by
    unfold reverseI
    rw [wrapI _ (by omega) (by omega)]
    refine Tot.iter (fun s => s.1 + s.2.1 = (l.length : Int) - 1 ∧ 0 ≤ s.1 ∧ s.1 ≤ s.2.1 + 1 ∧ s.2.2.1.length = l.length
        ∧ (∀ k : Nat, k < l.length → ((k : Int) < s.1 ∨ s.2.1 < (k : Int)) → s.2.2.1[k]? = l[l.length - 1 - k]?)
        ∧ (∀ k : Nat, s.1 ≤ (k : Int) → (k : Int) ≤ s.2.1 → s.2.2.1[k]? = l[k]?)) (fun s => (s.2.1 - s.1 + 1).toNat) ?_ _ _ ⟨by dsimp only; omega, by dsimp only; omega, by dsimp only; omega, rfl, ?_, fun k _ _ => rfl⟩ (by dsimp only; unfold BIG; omega)
    · rintro ⟨i, j, m, u⟩ ⟨q1, q2, q3, q4, q5, q6⟩ ih hih
      dsimp only at *
      unfold reverseI_l0; dsimp only
      refine Tot.cond (fun hb => ?_) (fun hb => ?_)
      · have hb := of_decide_eq_true hb
        rw [wrapI (i + 1) (by omega) (by omega), wrapI (j - 1) (by omega) (by omega)]
        refine Tot.need (inS_of (by omega) (by omega)) <| Tot.opt (idx_some (by omega)) fun r1 e1 => ?_
        refine Tot.need (inS_of (by omega) (by omega)) <| Tot.opt (idx_some (by omega)) fun r2 e2 => ?_
        refine Tot.need (inS_of (by omega) (by omega)) <| Tot.opt (idx_some (by omega)) fun r3 e3 => ?_
        refine Tot.need (inS_of (by omega) (by rw [List.length_set]; omega)) <| Tot.opt (idx_some (by rw [List.length_set]; omega)) fun r4 e4 => ?_
        refine hih _ ⟨by dsimp only; omega, by dsimp only; omega, by dsimp only; omega, by simp only [List.length_set]; exact q4, ?_, ?_⟩ (by dsimp only; omega)
        · intro k hk hc
          dsimp only at hc ⊢
          rw [List.getElem?_set, List.getElem?_set, List.length_set]
          by_cases hkj : j.toNat = k
          · rw [if_pos hkj, if_pos (by omega), ← e2, q6 _ (by omega) (by omega)]
            congr 1; omega
          · rw [if_neg hkj]
            by_cases hki : i.toNat = k
            · rw [if_pos hki, if_pos (by omega), ← e1, q6 _ (by omega) (by omega)]
              congr 1; omega
            · rw [if_neg hki]
              exact q5 k hk (by omega)
        · intro k h1 h2
          dsimp only at h1 h2 ⊢
          rw [List.getElem?_set, List.getElem?_set, if_neg (by omega), if_neg (by omega)]
          exact q6 k (by omega) (by omega)
      · have hb := of_decide_eq_false hb
        refine .ok ?_
        have : m = l.reverse := by
          apply List.ext_getElem?
          intro k
          by_cases hk : k < l.length
          · rw [List.getElem?_reverse hk]
            by_cases hc : (k : Int) < i ∨ j < k
            · exact q5 k hk hc
            · rw [q6 k (by omega) (by omega)]
              congr 1; omega
          · rw [List.getElem?_eq_none (by omega), List.getElem?_eq_none (by rw [List.length_reverse]; omega)]
        rw [this]
    · intro k hk hc
      dsimp only at hc
      omega
  obtain ⟨z, e, rfl⟩ := ht
  exact e

theorem lchain_ok {E : Int} {n : Nat} {L : P158} (hL : Led E n L) (hn : n ≤ 1000) (a : Int) (h0 : -1 ≤ a) (h1 : a < n) :
    lchain BIG Q_has.F Q_reverseI.F L a = some ((), (up (a + 1).toNat, (0, ()))) := by
  have hi : Tot (iter (lchain_l0 BIG Q_has.F Q_reverseI.F) BIG (L, (a, ([], ())))) (fun z => z = ((), (up (a + 1).toNat, (0, ())))) := by
    refine Tot.iter (fun s => s.1 = L ∧ -1 ≤ s.2.1 ∧ s.2.1 ≤ a ∧ (s.2.2.1.length : Int) = a - s.2.1 ∧ ∀ k : Nat, k < s.2.2.1.length → s.2.2.1[k]? = some (a - k)) (fun s => (s.2.1 + 1).toNat) ?_ _ _ ⟨rfl, h0, Int.le_refl _, by dsimp only [List.length_nil]; omega, fun k hk => absurd hk (by simp)⟩ (by dsimp only; unfold BIG; omega)
    rintro ⟨M, x, m, u⟩ ⟨q0, q1, q2, q3, q4⟩ ih hih
    dsimp only at *
    subst q0
    unfold lchain_l0; dsimp only
    refine Tot.cond (fun hb => ?_) (fun hb => ?_)
    · have hb := of_decide_eq_true hb
      refine Tot.need (dT (by simp only [List.length_cons, List.length_nil]; omega)) ?_
      refine Tot.opt (hL.get (a := x) hb (by omega)) fun e he => ?_
      rw [he.1]
      refine hih _ ⟨rfl, by show -1 ≤ x - 1; omega, by show x - 1 ≤ a; omega, by simp only [List.length_append, List.length_cons, List.length_nil]; show _ = a - (x - 1); omega, ?_⟩ (by show (x - 1 + 1).toNat < (x + 1).toNat; omega)
      intro k hk
      dsimp only at hk ⊢
      rw [List.length_append] at hk
      simp only [List.length_cons, List.length_nil] at hk
      by_cases hc : k < m.length
      · rw [List.getElem?_append_left hc]; exact q4 k hc
      · rw [List.getElem?_append_right (by omega), show k - m.length = 0 by omega]
        simp only [List.getElem?_cons_zero, Option.some.injEq]
        omega
    · have hb := of_decide_eq_false hb
      refine Tot.optE (reverseI_ok m (by omega)) ?_
      refine .ok ?_
      have : m.reverse = up (a + 1).toNat := by
        apply List.ext_getElem?
        intro k
        by_cases hk : k < m.length
        · rw [List.getElem?_reverse hk, q4 _ (by omega), up_get (by omega)]
          congr 1; omega
        · rw [List.getElem?_eq_none (by rw [List.length_reverse]; omega), List.getElem?_eq_none (by rw [up_length]; omega)]
      show ((), (m.reverse, (0, ()))) = _
      rw [this]
  have ht : Tot (lchain BIG Q_has.F Q_reverseI.F L a) (fun z => z = ((), (up (a + 1).toNat, (0, ())))) := by
    unfold lchain
    refine Tot.cond (fun hb => ?_) (fun _ => hi)
    have : a ≠ -1 := by simpa using hb
    exact Tot.optE (has_in hL a (by omega) h1) (Tot.no rfl hi)
  obtain ⟨z, e, rfl⟩ := ht
  exact e

theorem lheight_ok {E : Int} {n : Nat} {L : P158} (hL : Led E n L) (a : Int) (h0 : -1 ≤ a) (h1 : a < n) : Tot (lheight BIG Q_has.F L a) (fun z => z.2.1 = a + 1) := by
  unfold lheight
  by_cases h : a = -1
  · exact Tot.optE (has_neg L a (by omega)) (Tot.yes rfl (.ok (by show (0 : Int) = a + 1; omega)))
  · refine Tot.optE (has_in hL a (by omega) h1) (Tot.no rfl ?_)
    refine Tot.opt (hL.get (by omega) h1) fun e he => .ok ?_
    rw [he.1]; rfl

theorem lcommon_ok {E : Int} {n : Nat} {L : P158} (hL : Led E n L) (hn : n ≤ 1000) (a b : Int) (ha0 : -1 ≤ a) (ha1 : a < n) (hb0 : -1 ≤ b) (hb1 : b < n) :
    Tot (lcommon BIG Q_has.F Q_lheight.F L a b) (fun z => z.2.1 = min a b) := by
  have hi : Tot (iter (lcommon_l0 BIG Q_has.F Q_lheight.F) BIG (L, (a, (b, ())))) (fun z => z.2.1 = min a b) := by
    refine Tot.iter (fun s => s.1 = L ∧ -1 ≤ s.2.1 ∧ s.2.1 < (n : Int) ∧ -1 ≤ s.2.2.1 ∧ s.2.2.1 < (n : Int) ∧ min s.2.1 s.2.2.1 = min a b) (fun s => (s.2.1 + s.2.2.1 + 2).toNat) ?_ _ _ ⟨rfl, ha0, ha1, hb0, hb1, rfl⟩ (by dsimp only; unfold BIG; omega)
    rintro ⟨M, x, y, u⟩ ⟨q0, q1, q2, q3, q4, q5⟩ ih hih
    dsimp only at *
    subst q0
    unfold lcommon_l0; dsimp only
    refine Tot.cond (fun hc => ?_) (fun hc => ?_)
    · have hc : x ≠ y := by simpa using hc
      refine Tot.opt (lheight_ok hL x q1 q2) fun r3 h3 => ?_
      refine Tot.opt (lheight_ok hL y q3 q4) fun r4 h4 => ?_
      rw [h3, h4]
      refine Tot.cond (fun hd => ?_) (fun hd => ?_)
      · have hd := of_decide_eq_true hd
        refine Tot.opt (hL.get (a := x) (by omega) q2) fun e he => ?_
        rw [he.1]
        exact hih _ ⟨rfl, by show -1 ≤ x - 1; omega, by show x - 1 < n; omega, q3, q4, by show min (x - 1) y = _; omega⟩ (by show (x - 1 + y + 2).toNat < (x + y + 2).toNat; omega)
      · have hd := of_decide_eq_false hd
        refine Tot.opt (hL.get (a := y) (by omega) q4) fun e he => ?_
        rw [he.1]
        exact hih _ ⟨rfl, q1, q2, by show -1 ≤ y - 1; omega, by show y - 1 < n; omega, by show min x (y - 1) = _; omega⟩ (by show (x + (y - 1) + 2).toNat < (x + y + 2).toNat; omega)
    · have hc : x = y := by simpa using hc
      exact .ok (by dsimp only; omega)
  unfold lcommon
  refine Tot.cond (fun hb => ?_) (fun _ => ?_)
  · have h : a ≠ -1 := by simpa using hb
    refine Tot.optE (has_in hL a (by omega) ha1) (Tot.no rfl ?_)
    refine Tot.cond (fun hb => ?_) (fun _ => hi)
    have h : b ≠ -1 := by simpa using hb
    exact Tot.optE (has_in hL b (by omega) hb1) (Tot.no rfl hi)
  · refine Tot.cond (fun hb => ?_) (fun _ => hi)
    have h : b ≠ -1 := by simpa using hb
    exact Tot.optE (has_in hL b (by omega) hb1) (Tot.no rfl hi)

theorem lblock_ok {E : Int} {n : Nat} {L : P158} (hL : Led E n L) (a : Int) (h0 : 0 ≤ a) (h1 : a < n) : Tot (lblock BIG Q_has.F Q_ltwin.F L a) (fun z => z.2.2.1 = 0) := by
  unfold lblock
  refine Tot.optE (has_in hL a h0 h1) (Tot.no rfl ?_)
  refine Tot.opt (hL.get h0 h1) fun e he => ?_
  rw [he.1]
  exact Tot.optE (ltwin_ok _ _) (.ok rfl)

theorem indexI_ok (l : List Int) (v : Int) (hl : l.length ≤ 100000) : Tot (indexI BIG l v) (fun z => (z.2.1 = -1 ∧ ∀ i : Nat, l[i]? ≠ some v) ∨ (0 ≤ z.2.1 ∧ l[z.2.1.toNat]? = some v)) := by
  unfold indexI
  refine Tot.iter (fun s => s.1 = l ∧ s.2.1 = v ∧ s.2.2.1 = (l.length : Int) ∧ 0 ≤ s.2.2.2.1 ∧ s.2.2.2.1 ≤ (l.length : Int) ∧ ∀ k : Nat, (k : Int) < s.2.2.2.1 → l[k]? ≠ some v) (fun s => ((l.length : Int) - s.2.2.2.1).toNat) ?_ _ _ ⟨rfl, rfl, rfl, by dsimp only; omega, by dsimp only; omega, fun k hk => by dsimp only at hk; omega⟩ (by dsimp only; unfold BIG; omega)
  rintro ⟨m, w, n, i, u⟩ ⟨q1, q2, q3, q4, q5, q6⟩ ih hih
  dsimp only at *
  subst q1; subst q2; subst q3
  unfold indexI_l0; dsimp only
  refine Tot.cond (fun hb => ?_) (fun hb => ?_)
  · have hb := of_decide_eq_true hb
    refine Tot.opt (Tot.getI q4 hb) fun r hr => ?_
    refine Tot.cond (fun hc => ?_) (fun hc => ?_)
    · have hc : w = r := by simpa using hc
      subst hc
      exact .ok (.inr ⟨q4, hr⟩)
    · have hc : w ≠ r := by simpa using hc
      rw [wrapI (i + 1) (by omega) (by omega)]
      refine hih _ ⟨rfl, rfl, rfl, by dsimp only; omega, by dsimp only; omega, ?_⟩ (by dsimp only; omega)
      intro k hk
      dsimp only at hk
      by_cases hki : (k : Int) < i
      · exact q6 k hki
      · have : k = i.toNat := by omega
        subst this
        rw [hr]
        intro h
        exact hc (Option.some.inj h).symm
  · have hb := of_decide_eq_false hb
    refine .ok (.inl ⟨rfl, fun k h => ?_⟩)
    by_cases hk : k < m.length
    · exact q6 k (by omega) h
    · rw [List.getElem?_eq_none (by omega)] at h; cases h

theorem index_up (m : Nat) (v : Int) (hm : m ≤ 100000) (h0 : -1 ≤ v) (h1 : v < m) : Tot (indexI BIG (up m) v) (fun z => z.2.1 = v) := by
  refine (indexI_ok (up m) v (by rw [up_length]; exact hm)).mono fun z hz => ?_
  rcases hz with ⟨h, hn⟩ | ⟨h, hs⟩
  · by_cases hv : v = -1
    · rw [h, hv]
    · exact absurd (up_get (m := m) (i := v.toNat) (by omega)) (by rw [Int.toNat_of_nonneg (by omega)]; exact hn _)
  · have := (up_of hs).1
    omega

theorem contains_up (m : Nat) (v : Int) (hm : m ≤ 100000) (h0 : 0 ≤ v) (h1 : v < m) : Tot (containsI BIG Q_indexI.F (up m) v) (fun z => z.2.1 = true) := by
  unfold containsI
  refine Tot.opt (index_up m v hm (by omega) h1) fun r hr => .ok ?_
  dsimp only
  rw [hr]
  exact dT (by omega)

def fd (K h d : Int) : P104 := (K, (h, (d, (false, ()))))

theorem fcheck_ok {E : Int} {n : Nat} {L : P158} (hL : Led E n L) (hn : n ≤ 1000) (K h d : Int) (k0 : 0 ≤ K) (k1 : K ≤ 1048576) (h0 : -1 ≤ h) (h1 : h < n) (d0 : -1 ≤ d) (d1 : d ≤ h) :
    fcheck BIG Q_lchain.F Q_containsI.F L (fd K h d) = some ((), (0, ())) := by
  have ht : Tot (fcheck BIG Q_lchain.F Q_containsI.F L (fd K h d)) (fun z => z = ((), (0, ()))) := by
    unfold fcheck
    refine Tot.optE (lchain_ok hL hn h h0 h1) ?_
    refine Tot.no (dF (by show ¬ K < 0; omega)) <| Tot.no (dF (by show ¬ K > 1048576; omega)) <| Tot.no rfl ?_
    refine Tot.cond (fun hb => ?_) (fun _ => .ok rfl)
    have hd : d ≠ -1 := by
      have : (d != -1) = true := hb
      simpa using this
    refine Tot.opt (contains_up (h + 1).toNat d (by omega) (by omega) (by omega)) fun r hr => ?_
    exact Tot.no (by rw [hr]; rfl) (.ok rfl)
  obtain ⟨z, e, rfl⟩ := ht
  exact e

theorem fsee_ok {E : Int} {n : Nat} {L : P158} (hL : Led E n L) (hn : n ≤ 1000) (K h d b : Int) (k0 : 0 ≤ K) (k1 : K ≤ 1000) (h0 : -1 ≤ h) (h1 : h < n) (d0 : -1 ≤ d) (d1 : d ≤ h)
    (b0 : 0 ≤ b) (b1 : b < n) (db : d ≤ b) (hk : h - min h b ≤ K) :
    Tot (fsee BIG Q_lblock.F Q_lchain.F Q_lcommon.F Q_fcheck.F Q_containsI.F Q_indexI.F Q_cloneI.F L (fd K h d) b)
      (fun z => z.2.1 = fd K b (max d (b - K)) ∧ up (d + 1).toNat ++ z.2.2.1 = up (max d (b - K) + 1).toNat ∧ z.2.2.2.1 = 0) := by
  unfold fsee
  refine Tot.optE (fcheck_ok hL hn K h d k0 (by omega) h0 h1 d0 d1) ?_
  refine Tot.no rfl <| Tot.no rfl ?_
  refine Tot.opt (lblock_ok hL b b0 b1) fun r2 h2 => ?_
  refine Tot.no (by rw [h2]; rfl) ?_
  refine Tot.optE (lchain_ok hL hn h h0 h1) ?_
  refine Tot.optE (lchain_ok hL hn b (by omega) b1) ?_
  refine Tot.opt (lcommon_ok hL hn h b h0 h1 (by omega) b1) fun r5 h5 => ?_
  refine Tot.optE (z := ((), (up (min h b + 1).toNat, (0, ())))) (by rw [h5]; exact lchain_ok hL hn (min h b) (by omega) (by omega)) ?_
  refine Tot.no (dF ?_) ?_
  · show ¬ IntKind.wrap IntKind.i64 ((((up (h + 1).toNat).length : Nat) : Int) - (((up (min h b + 1).toNat).length : Nat) : Int)) > K
    rw [up_length, up_length, wrapI _ (by omega) (by omega)]
    omega
  have tail : ∀ r : Int, r = d → Tot (bif (decide ((IntKind.wrap IntKind.i64 ((((up (b + 1).toNat).length : Nat) : Int) - K)) > (IntKind.wrap IntKind.i64 ((1 : Int) + r)))) then
              need (okCut (IntKind.wrap IntKind.i64 ((1 : Int) + r)) (IntKind.wrap IntKind.i64 ((((up (b + 1).toNat).length : Nat) : Int) - K)) (List.length (up (b + 1).toNat))) <|
              opt ((Q_cloneI.F ((cut (up (b + 1).toNat) (Int.toNat (IntKind.wrap IntKind.i64 ((1 : Int) + r))) (Int.toNat (IntKind.wrap IntKind.i64 ((((up (b + 1).toNat).length : Nat) : Int) - K))), ()) : DP Q_cloneI.ps) : Option (Unit × List Int × Unit))) fun r12 =>
              opt ((getI (up (b + 1).toNat) (IntKind.wrap IntKind.i64 ((IntKind.wrap IntKind.i64 ((((up (b + 1).toNat).length : Nat) : Int) - K)) - (1 : Int))))) fun r13 =>
              some ((), ((K, (b, (r13, (false, ())))), (r12.2.1, ((0 : Int), ()))))
            else
              some ((), ((K, (b, (d, (false, ())))), (([] : (List Int)), ((0 : Int), ())))))
      (fun z : Unit × P104 × List Int × Int × Unit => z.2.1 = fd K b (max d (b - K)) ∧ up (d + 1).toNat ++ z.2.2.1 = up (max d (b - K) + 1).toNat ∧ z.2.2.2.1 = 0) := by
    intro r hr
    subst hr
    rw [up_length, wrapI _ (by omega) (by omega), wrapI (1 + r) (by omega) (by omega), wrapI _ (by omega) (by omega)]
    refine Tot.cond (fun hb => ?_) (fun hb => ?_)
    · have hb := of_decide_eq_true hb
      refine Tot.need (okCut_of (by omega) (by omega) (by omega)) ?_
      refine Tot.optE (cloneQ_eq (md := .own) (t := .int .i64) (by
        show (cut (up (b + 1).toNat) _ _).length ≤ sizeMax
        rw [cut_length, up_length]; unfold sizeMax; omega)) ?_
      refine Tot.opt (Tot.getI (by omega) (by rw [up_length]; omega)) fun v hv => ?_
      have hv := (up_of hv).1
      refine .ok ⟨?_, ?_, rfl⟩
      · show (K, (b, (v, (false, ())))) = fd K b (max r (b - K))
        rw [show v = max r (b - K) by omega]; rfl
      · show up (r + 1).toNat ++ cut (up (b + 1).toNat) (1 + r).toNat (((b + 1).toNat : Int) - K).toNat = _
        unfold cut
        rw [up_take, show min (((b + 1).toNat : Int) - K).toNat (b + 1).toNat = (max r (b - K) + 1).toNat by omega]
        have : up (r + 1).toNat = (up (max r (b - K) + 1).toNat).take (1 + r).toNat := by
          rw [up_take]; congr 1; omega
        rw [this, List.take_append_drop]
    · have hb := of_decide_eq_false hb
      have hm : max r (b - K) = r := by omega
      refine .ok ⟨?_, ?_, rfl⟩
      · rw [hm]; rfl
      · rw [hm]; exact List.append_nil _
  refine Tot.cond (fun hb => ?_) (fun hb => ?_)
  · have hd : d ≠ -1 := by
      have : (d != -1) = true := hb
      simpa using this
    refine Tot.opt (contains_up (b + 1).toNat d (by omega) (by omega) (by omega)) fun r7 h7 => ?_
    refine Tot.no (by rw [h7]; rfl) ?_
    refine Tot.opt (index_up (b + 1).toNat d (by omega) (by omega) (by omega)) fun r8 h8 => ?_
    exact tail r8.2.1 h8
  · refine Tot.opt (index_up (b + 1).toNat d (by omega) (by omega) (by omega)) fun r8 h8 => ?_
    exact tail r8.2.1 h8

theorem kints_same (l : List Int) (hl : l.length ≤ 100000) : kints BIG l l = some ((), (true, ())) := by
  have ht : Tot (kints BIG l l) (fun z => z = ((), (true, ()))) := by
    unfold kints
    refine Tot.no (by simp) ?_
    refine Tot.iter (fun s => s.1 = l ∧ s.2.1 = l ∧ 0 ≤ s.2.2.1) (fun s => ((l.length : Int) - s.2.2.1).toNat) ?_ _ _ ⟨rfl, rfl, by dsimp only; omega⟩ (by dsimp only; unfold BIG; omega)
    rintro ⟨m, w, i, u⟩ ⟨q1, q2, q3⟩ ih hih
    dsimp only at *
    subst q1; subst q2
    unfold kints_l0; dsimp only
    refine Tot.cond (fun hb => ?_) (fun _ => .ok rfl)
    have hb := of_decide_eq_true hb
    obtain ⟨x, hx, _⟩ := getI_some q3 hb
    refine Tot.optE hx <| Tot.optE hx <| Tot.no (by simp) ?_
    rw [wrapI (i + 1) (by omega) (by omega)]
    exact hih _ ⟨rfl, rfl, by dsimp only; omega⟩ (by dsimp only; omega)
  obtain ⟨z, e, rfl⟩ := ht
  exact e

theorem fnew_ok (K : Int) (h0 : 0 ≤ K) (h1 : K ≤ 1048576) : fnew BIG K = some ((), (fd K (-1) (-1), (0, ()))) := by
  have ht : Tot (fnew BIG K) (fun z => z = ((), (fd K (-1) (-1), (0, ())))) := by
    unfold fnew
    exact Tot.no (dF (by omega)) <| Tot.no (dF (by omega)) (.ok rfl)
  obtain ⟨z, e, rfl⟩ := ht
  exact e

theorem Led.new (E : Int) : Led E 0 (stE E 0, ([], (-1, ()))) := ⟨rfl, rfl, fun i e h => by simp at h, rfl⟩

theorem Tot.altS {β ω : Type} {Q : ω → Prop} {o : Option β} {x : β} {n : Option ω} {k : β → Option ω} (h : o = some x) (hk : Tot (k x) Q) : Tot (alt o n k) Q := by
  subst h; exact hk
theorem lnewQ (E : Int) (h0 : 0 ≤ E) (h1 : E ≤ 1000) : @Eq (Option (Unit × (Option P158 × Int × Unit))) (Q_lnew.F (cfg E, ())) (some ((), (some (stE E 0, ([], (-1, ()))), (0, ())))) := lnew_ok E h0 h1
theorem fnewQ (K : Int) (h0 : 0 ≤ K) (h1 : K ≤ 1048576) : @Eq (Option (Unit × (P104 × Int × Unit))) (Q_fnew.F ((K, ()) : Int × Unit)) (some ((), (fd K (-1) (-1), (0, ())))) := fnew_ok K h0 h1
theorem fseeQ {E : Int} {n : Nat} {L : P158} (hL : Led E n L) (hn : n ≤ 1000) (K h d b : Int) (k0 : 0 ≤ K) (k1 : K ≤ 1000) (h0 : -1 ≤ h) (h1 : h < n) (d0 : -1 ≤ d) (d1 : d ≤ h)
    (b0 : 0 ≤ b) (b1 : b < n) (db : d ≤ b) (hk : h - min h b ≤ K) :
    @Tot (Unit × P104 × List Int × Int × Unit) (Q_fsee.F (L, (fd K h d, (b, ()))))
      (fun z => z.2.1 = fd K b (max d (b - K)) ∧ up (d + 1).toNat ++ z.2.2.1 = up (max d (b - K) + 1).toNat ∧ z.2.2.2.1 = 0) := fsee_ok hL hn K h d b k0 k1 h0 h1 d0 d1 b0 b1 db hk
theorem wakes_ok : wakes18 BIG Q_ladd.F Q_kints.F Q_lnew.F Q_fnew.F Q_fsee.F = some ((), (true, ())) := by
  have ht : Tot (wakes18 BIG Q_ladd.F Q_kints.F Q_lnew.F Q_fnew.F Q_fsee.F) (fun z => z = ((), (true, ()))) := by
    unfold wakes18
    refine Tot.optE (lnewQ 9 (by omega) (by omega)) ?_
    refine Tot.altS rfl ?_
    refine Tot.optE (fnewQ 2 (by omega) (by omega)) ?_
    refine Tot.no rfl <| Tot.no rfl ?_
    refine Tot.iter (fun s => 0 ≤ s.1 ∧ s.1 ≤ 5 ∧ Led 9 s.1.toNat s.2.1 ∧ s.2.2.1 = fd 2 (-1) (-1)) (fun s => (5 - s.1).toNat) ?_ _ _ ⟨by dsimp only; omega, by dsimp only; omega, Led.new 9, rfl⟩ (by dsimp only; unfold BIG; omega)
    rintro ⟨i, L, f, u⟩ ⟨q0, q1, q2, q3⟩ ih hih
    dsimp only at *
    subst q3
    unfold wakes18_l0; dsimp only
    refine Tot.cond (fun hb => ?_) (fun hb => ?_)
    · have hb := of_decide_eq_true hb
      rw [wrapI (i - 1) (by omega) (by omega), wrapI (i + 1) (by omega) (by omega)]
      have ha := ladd_ok (n := i.toNat) q2 (by omega) (by omega)
      rw [Int.toNat_of_nonneg q0] at ha
      refine Tot.opt ha fun r hr => ?_
      exact hih _ ⟨by dsimp only; omega, by dsimp only; omega, by dsimp only; rw [show (i + 1).toNat = i.toNat + 1 by omega]; exact hr.1, rfl⟩ (by dsimp only; omega)
    · have hb := of_decide_eq_false hb
      have hi : i = 5 := by omega
      subst hi
      refine Tot.opt (fseeQ (n := 5) q2 (by omega) 2 (-1) (-1) 4 (by omega) (by omega) (by omega) (by omega) (by omega) (by omega) (by omega) (by omega) (by omega) (by omega)) fun r hr => ?_
      obtain ⟨r1, r2, r3⟩ := hr
      have hl : r.2.2.1 = [0, 1, 2] := r2
      refine Tot.yes (by rw [r3]; rfl) ?_
      refine Tot.optE (by rw [hl]; exact kints_same [0, 1, 2] (by simp)) ?_
      refine Tot.yes rfl ?_
      rw [r1]
      exact Tot.yes rfl (.ok rfl)
  obtain ⟨z, e, rfl⟩ := ht
  exact e
end Go.Eng
