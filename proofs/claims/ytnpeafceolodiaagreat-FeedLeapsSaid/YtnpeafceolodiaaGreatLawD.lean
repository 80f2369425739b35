/- Plain law, part D: what the laws' functions answer. -/
import Derived.Test.YtnpeafceolodiaaGreatLawC
namespace Go.Eng
open Go.Proofs
set_option linter.unusedVariables false
set_option maxRecDepth 100000

theorem Tot.eq {ω : Type} {o : Option ω} {v : ω} (h : Tot o (fun z => z = v)) : o = Option.some v := by
  obtain ⟨z, e, rfl⟩ := h; exact e
theorem modI (x m : Int) (h0 : 0 < m) (h1 : m ≤ 1000) : 0 ≤ IntKind.wrap IntKind.i64 (Int.tmod (IntKind.wrap IntKind.u64 x) m) ∧ IntKind.wrap IntKind.i64 (Int.tmod (IntKind.wrap IntKind.u64 x) m) < m := by
  have h := wrapU_pos x
  generalize IntKind.wrap IntKind.u64 x = y at *
  have e : Int.tmod y m = y % m := Int.tmod_eq_emod_of_nonneg h
  have a : 0 ≤ y % m := Int.emod_nonneg _ (by omega)
  have b : y % m < m := Int.emod_lt_of_pos _ h0
  rw [wrapI _ (by omega) (by omega)]
  omega

theorem laddQ {E : Int} {n : Nat} {L : P158} (hL : Led E n L) (hn : (n : Int) < E) (hE : E ≤ 1000) :
    @Tot ((P158 × Unit) × Int × Int × Unit) (Q_ladd.F (L, (blk ((n : Int) - 1) ((n : Int) + 1), ()))) (fun z => Led E (n + 1) z.1.1 ∧ z.2.2.1 = 0) := ladd_ok hL hn hE
theorem wakesQ : @Eq (Option (Unit × (Bool × Unit))) (Q_wakes18.F ()) (some ((), (true, ()))) := wakes_ok

theorem feedOne_l1_ok {L : P158} (n k : Int) (sees : List Int) (hL : Led 99 n.toNat L) (hn0 : 1 ≤ n) (hn1 : n ≤ 20) (hk0 : 0 ≤ k) (hk1 : k < 6) (hs : sees.length ≤ 60) :
    Tot (iter (feedOne_l1 BIG Q_ladd.F Q_lnew.F Q_fnew.F Q_fsee.F Q_wakes18.F) BIG (n, (k, (sees, ((-1 : Int), ((0 : Int), (L, (fd k (-1) (-1), ())))))))) (fun z => z = ((), (true, ()))) := by
  refine Tot.iter (fun s => s.1 = n ∧ s.2.1 = k ∧ s.2.2.1 = sees ∧ -1 ≤ s.2.2.2.1 ∧ s.2.2.2.1 < n ∧ 0 ≤ s.2.2.2.2.1 ∧ s.2.2.2.2.2.1 = L ∧ ∃ h, s.2.2.2.2.2.2.1 = fd k h (max (s.2.2.2.1 - k) (-1)) ∧ -1 ≤ h ∧ h ≤ s.2.2.2.1 ∧ max (s.2.2.2.1 - k) (-1) ≤ h)
    (fun s => ((sees.length : Int) - s.2.2.2.2.1).toNat) ?_ _ _ ⟨rfl, rfl, rfl, by dsimp only; omega, by dsimp only; omega, by dsimp only; omega, rfl, -1, ?_, by omega, by dsimp only; omega, by dsimp only; omega⟩ (by dsimp only; unfold BIG; omega)
  · rintro ⟨n', k', sees', top, j, L', f, u⟩ ⟨q1, q2, q3, q4, q5, q6, q7, h, q8, q9, q10, q11⟩ ih hih
    dsimp only at *
    subst q1; subst q2; subst q3; subst q7; subst q8
    unfold feedOne_l1; dsimp only
    refine Tot.cond (fun hb => ?_) (fun hb => ?_)
    · have hb := of_decide_eq_true hb
      refine Tot.opt (Tot.getI q6 hb) fun r _ => ?_
      obtain ⟨m0, m1⟩ := modI r n' (by omega) (by omega)
      rw [wrapU n' (by omega) (by omega)]
      generalize IntKind.wrap IntKind.i64 (Int.tmod (IntKind.wrap IntKind.u64 r) n') = at' at *
      refine Tot.need (by rw [bne_iff_ne]; omega) ?_
      rw [wrapI (j + 1) (by omega) (by omega)]
      refine Tot.cond (fun _ => ?_) (fun hc => ?_)
      · exact hih _ ⟨rfl, rfl, rfl, q4, q5, by dsimp only; omega, rfl, h, rfl, q9, q10, q11⟩ (by dsimp only; omega)
      · have hc := of_decide_eq_false hc
        have hc' : ¬ (IntKind.wrap IntKind.i64 (h - at') > k') := hc
        rw [wrapI _ (by omega) (by omega)] at hc'
        refine Tot.cond (fun _ => ?_) (fun hd => ?_)
        · exact hih _ ⟨rfl, rfl, rfl, q4, q5, by dsimp only; omega, rfl, h, rfl, q9, q10, q11⟩ (by dsimp only; omega)
        · have hd := of_decide_eq_false hd
          have hd' : ¬ (max (top - k') (-1) > at') := hd
          refine Tot.opt (fseeQ hL (by omega) k' h (max (top - k') (-1)) at' hk0 (by omega) q9 (by omega) (by omega) q11 m0 (by omega) (by omega) (by omega)) fun r7 h7 => ?_
          obtain ⟨e1, e2, e3⟩ := h7
          refine Tot.no (by rw [e3]; rfl) ?_
          rw [e1, maxI_eq, maxI_eq, wrapI (max top at' - k') (by omega) (by omega)]
          refine Tot.no ?_ ?_
          · show (max (max (top - k') (-1)) (at' - k') != max (max top at' - k') (-1)) = false
            rw [bne_eq_false_iff_eq]; omega
          · refine hih _ ⟨rfl, rfl, rfl, by dsimp only; omega, by dsimp only; omega, by dsimp only; omega, rfl, at', ?_, by omega, by dsimp only; omega, by dsimp only; omega⟩ (by dsimp only; omega)
            dsimp only
            congr 1
            omega
    · refine Tot.yes rfl ?_
      exact Tot.optE wakesQ (.ok rfl)
  · dsimp only
    congr 1
    omega

theorem feedOne_ok (n0 k0 : Int) (sees : List Int) : feedOne BIG Q_ladd.F Q_lnew.F Q_fnew.F Q_fsee.F Q_wakes18.F n0 k0 sees = some ((), (true, ())) := by
  apply Tot.eq
  unfold feedOne
  refine Tot.cond (fun _ => .ok rfl) (fun hs => ?_)
  have hs := of_decide_eq_false hs
  refine Tot.optE (lnewQ 99 (by omega) (by omega)) ?_
  refine Tot.altS rfl ?_
  obtain ⟨k1, k2⟩ := modI k0 6 (by omega) (by omega)
  obtain ⟨n1, n2⟩ := modI n0 20 (by omega) (by omega)
  generalize IntKind.wrap IntKind.i64 (Int.tmod (IntKind.wrap IntKind.u64 k0) 6) = k at *
  generalize IntKind.wrap IntKind.i64 (Int.tmod (IntKind.wrap IntKind.u64 n0) 20) = m at *
  rw [wrapI (1 + m) (by omega) (by omega)]
  refine Tot.optE (fnewQ k (by omega) (by omega)) ?_
  refine Tot.no rfl <| Tot.no rfl ?_
  generalize hn : 1 + m = n
  refine Tot.iter (fun s => s.1 = n ∧ s.2.1 = k ∧ s.2.2.1 = sees ∧ 0 ≤ s.2.2.2.1 ∧ s.2.2.2.1 ≤ n ∧ Led 99 s.2.2.2.1.toNat s.2.2.2.2.1 ∧ s.2.2.2.2.2.1 = fd k (-1) (-1))
    (fun s => (n - s.2.2.2.1).toNat) ?_ _ _ ⟨rfl, rfl, rfl, by dsimp only; omega, by dsimp only; omega, Led.new 99, rfl⟩ (by dsimp only; unfold BIG; omega)
  rintro ⟨n', k', sees', i, L, f, u⟩ ⟨q1, q2, q3, q4, q5, q6, q7⟩ ih hih
  dsimp only at *
  subst q1; subst q2; subst q3; subst q7
  unfold feedOne_l0; dsimp only
  refine Tot.cond (fun hb => ?_) (fun hb => ?_)
  · have hb := of_decide_eq_true hb
    rw [wrapI (i - 1) (by omega) (by omega), wrapI (i + 1) (by omega) (by omega)]
    have ha := laddQ (n := i.toNat) q6 (by omega) (by omega)
    rw [Int.toNat_of_nonneg q4] at ha
    refine Tot.opt ha fun r hr => ?_
    refine Tot.no (by rw [hr.2]; rfl) ?_
    exact hih _ ⟨rfl, rfl, rfl, by dsimp only; omega, by dsimp only; omega, by dsimp only; rw [show (i + 1).toNat = i.toNat + 1 by omega]; exact hr.1, rfl⟩ (by dsimp only; omega)
  · have hb := of_decide_eq_false hb
    have hi : i = n' := by omega
    subst hi
    exact feedOne_l1_ok i k' sees' q6 (by omega) (by omega) k1 k2 (by omega)
end Go.Eng
