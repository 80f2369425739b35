/- Plain law, part E: a feed that leaps confirms what a feed that goes block by block confirms. -/
import Derived.Test.YtnpeafceolodiaaGreatLawD
namespace Go.Eng
open Go.Proofs
set_option linter.unusedVariables false
set_option maxRecDepth 100000

theorem kfeed_same (K h d : Int) : kfeed BIG (fd K h d) (fd K h d) = some ((), (true, ())) := by
  apply Tot.eq
  unfold kfeed
  exact Tot.yes (by simp) <| Tot.yes (by simp) <| Tot.yes (by simp) (.ok (by simp))
theorem kintsQ (l m : List Int) (h : l = m) (hl : l.length ≤ 100000) : @Eq (Option (Unit × (Bool × Unit))) (Q_kints.F (l, (m, ()))) (some ((), (true, ()))) := by
  subst h; exact kints_same l hl
theorem kfeedQ (f g : P104) (K h d : Int) (hf : f = fd K h d) (hg : g = fd K h d) : @Eq (Option (Unit × (Bool × Unit))) (Q_kfeed.F (f, (g, ()))) (some ((), (true, ()))) := by
  subst hf; subst hg; exact kfeed_same K h d

/-- What stands between two rounds of the second loop. -/
def LeapInv (n k : Int) (sees : List Int) (L : P158) (t1 : List Int) (D : Int) (s : Int × (Int × ((List Int) × ((List Int) × ((List Int) × (Int × (Int × (P158 × (P104 × (P104 × Unit)))))))))) : Prop :=
  s.1 = n ∧ s.2.1 = k ∧ s.2.2.1 = sees ∧ s.2.2.2.1 = t1 ∧ s.2.2.2.2.2.2.2.1 = L ∧ s.2.2.2.2.2.2.2.2.1 = fd k (n - 1) D
    ∧ -1 ≤ s.2.2.2.2.2.1 ∧ s.2.2.2.2.2.1 < n ∧ 0 ≤ s.2.2.2.2.2.2.1 ∧ s.2.2.2.2.2.2.1 ≤ (sees.length : Int) + 1 ∧ (s.2.2.2.2.2.2.1 = (sees.length : Int) + 1 → s.2.2.2.2.2.1 = n - 1)
    ∧ s.2.2.2.2.2.2.2.2.2.1 = fd k s.2.2.2.2.2.1 (max (s.2.2.2.2.2.1 - k) (-1)) ∧ s.2.2.2.2.1 = up (max (s.2.2.2.2.2.1 - k) (-1) + 1).toNat

theorem feedLeaps_l1_ok {L : P158} (n k : Int) (sees : List Int) (hL : Led 99 n.toNat L) (hn0 : 1 ≤ n) (hn1 : n ≤ 20) (hk0 : 0 ≤ k) (hk1 : k < 6) (hs : sees.length ≤ 60) :
    Tot (iter (feedLeaps_l1 BIG Q_ladd.F Q_kints.F Q_lnew.F Q_fnew.F Q_kfeed.F Q_fsee.F Q_wakes18.F) BIG
      (n, (k, (sees, (up (max (n - 1 - k) (-1) + 1).toNat, ([], ((-1 : Int), ((0 : Int), (L, (fd k (n - 1) (max (n - 1 - k) (-1)), (fd k (-1) (-1), ()))))))))))) (fun z => z = ((), (true, ()))) := by
  refine Tot.iter (LeapInv n k sees L (up (max (n - 1 - k) (-1) + 1).toNat) (max (n - 1 - k) (-1))) (fun s => ((sees.length : Int) + 1 - s.2.2.2.2.2.2.1).toNat) ?_ _ _ ?_ (by dsimp only; unfold BIG; omega)
  · rintro ⟨n', k', sees', t1, t2, at', i, L', f1, f2, u⟩ ⟨q1, q2, q3, q4, q5, q6, q7, q8, q9, q10, q11, q12, q13⟩ ih hih
    dsimp only at *
    subst q1; subst q2; subst q3; subst q5; subst q6
    have fin : at' = n' - 1 → Tot (@opt (Unit × (Bool × Unit)) _ (Q_kints.F ((t1, (t2, ())) : List Int × List Int × Unit)) fun r12 =>
      bif r12.2.1 then
        bif ((((List.length t2) : Nat) : Int) == (maxI (IntKind.wrap IntKind.i64 (n' - k')) (0 : Int))) then
          @opt (Unit × (Bool × Unit)) _ (Q_kfeed.F ((fd k' (n' - 1) (max (n' - 1 - k') (-1)), (f2, u)) : P104 × P104 × Unit)) fun r13 =>
          bif r13.2.1 then
            @opt (Unit × (Bool × Unit)) _ (Q_wakes18.F ()) fun r14 =>
            some ((), r14.2)
          else
            some ((), (false, ()))
        else
          some ((), (false, ()))
      else
        some ((), (false, ()))) (fun z : Unit × (Bool × Unit) => z = ((), (true, ()))) := by
      intro ha
      subst ha
      refine Tot.optE (kintsQ t1 t2 (by rw [q4, q13]) (by rw [q4, up_length]; omega)) ?_
      refine Tot.yes rfl <| Tot.yes ?_ ?_
      · rw [q13, up_length, wrapI _ (by omega) (by omega), maxI_eq, beq_iff_eq]
        omega
      · refine Tot.optE (kfeedQ _ f2 k' (n' - 1) (max (n' - 1 - k') (-1)) rfl q12) ?_
        exact Tot.yes rfl (Tot.optE wakesQ (.ok rfl))
    have see : ∀ b : Int, at' < n' - 1 → at' + 1 ≤ b → b ≤ n' - 1 → (i < (sees'.length : Int) ∨ b = n' - 1) → i ≤ (sees'.length : Int) →
        Tot (@opt (Unit × (P104 × (List Int × (Int × Unit)))) _ (Q_fsee.F ((L', (f2, (b, ()))) : P158 × P104 × Int × Unit)) fun r10 =>
          bif (r10.2.2.2.1 != (0 : Int)) then
            some ((), (false, ()))
          else
            need (decide ((((List.length t2) + (List.length r10.2.2.1)) ≤ 68719476736))) <|
            ih (n', (k', (sees', (t1, ((t2 ++ r10.2.2.1), (b, ((IntKind.wrap IntKind.i64 (i + (1 : Int))), (L', (fd k' (n' - 1) (max (n' - 1 - k') (-1)), (r10.2.1, ()))))))))))) (fun z : Unit × (Bool × Unit) => z = ((), (true, ()))) := by
      intro b h1 h2 h3 h4 h5
      rw [q12]
      refine Tot.opt (fseeQ hL (by omega) k' at' (max (at' - k') (-1)) b hk0 (by omega) q7 (by omega) (by omega) (by omega) (by omega) (by omega) (by omega) (by omega)) fun r hr => ?_
      obtain ⟨e1, e2, e3⟩ := hr
      have hm : max (max (at' - k') (-1)) (b - k') = max (b - k') (-1) := by omega
      rw [hm] at e1 e2
      have e2' : t2 ++ r.2.2.1 = up (max (b - k') (-1) + 1).toNat := by rw [q13]; exact e2
      have hlen : t2.length + r.2.2.1.length ≤ 100 := by
        rw [← List.length_append, e2', up_length]; omega
      refine Tot.no (by rw [e3]; rfl) ?_
      refine Tot.need (dT (by omega)) ?_
      rw [wrapI (i + 1) (by omega) (by omega)]
      exact hih _ ⟨rfl, rfl, rfl, q4, rfl, rfl, by dsimp only; omega, by dsimp only; omega, by dsimp only; omega, by dsimp only; omega, by dsimp only; omega, e1, e2'⟩ (by dsimp only; omega)
    unfold feedLeaps_l1; dsimp only
    refine Tot.cond (fun hb => ?_) (fun hb => ?_)
    · have hb := of_decide_eq_true hb
      rw [wrapI (n' - 1) (by omega) (by omega)]
      refine Tot.cond (fun hc => ?_) (fun hc => ?_)
      · have hc := of_decide_eq_true hc
        refine Tot.cond (fun hd => ?_) (fun hd => ?_)
        · have hd := of_decide_eq_true hd
          refine Tot.opt (Tot.getI q9 hd) fun r9 _ => ?_
          obtain ⟨m0, m1⟩ := modI r9 4 (by omega) (by omega)
          have hh : f2.2.1 = at' := by rw [q12]; rfl
          rw [hh]
          generalize IntKind.wrap IntKind.i64 (Int.tmod (IntKind.wrap IntKind.u64 r9) 4) = m at *
          rw [wrapI (at' + 1) (by omega) (by omega), wrapI (at' + 1 + m) (by omega) (by omega), minI_eq]
          exact see _ hc (by omega) (by omega) (.inl hd) (by omega)
        · have hd := of_decide_eq_false hd
          exact see _ hc (by omega) (by omega) (.inr rfl) (by omega)
      · have hc := of_decide_eq_false hc
        exact fin (by omega)
    · have hb := of_decide_eq_false hb
      exact fin (q11 (by omega))
  · refine ⟨rfl, rfl, rfl, rfl, rfl, rfl, by dsimp only; omega, by dsimp only; omega, by dsimp only; omega, by dsimp only; omega, by dsimp only; omega, ?_, ?_⟩
    · dsimp only
      rw [show max (-1 - k) (-1) = -1 by omega]
    · dsimp only
      rw [show (max (-1 - k) (-1) + 1).toNat = 0 by omega]
      rfl

theorem feedLeaps_ok (n0 k0 : Int) (sees : List Int) : feedLeaps BIG Q_ladd.F Q_kints.F Q_lnew.F Q_fnew.F Q_kfeed.F Q_fsee.F Q_wakes18.F n0 k0 sees = some ((), (true, ())) := by
  apply Tot.eq
  unfold feedLeaps
  refine Tot.cond (fun _ => .ok rfl) (fun hs => ?_)
  have hs := of_decide_eq_false hs
  refine Tot.optE (lnewQ 99 (by omega) (by omega)) ?_
  refine Tot.altS rfl ?_
  obtain ⟨k1, k2⟩ := modI k0 6 (by omega) (by omega)
  obtain ⟨n1, n2⟩ := modI n0 20 (by omega) (by omega)
  generalize IntKind.wrap IntKind.i64 (Int.tmod (IntKind.wrap IntKind.u64 k0) 6) = k at *
  generalize IntKind.wrap IntKind.i64 (Int.tmod (IntKind.wrap IntKind.u64 n0) 20) = m at *
  rw [wrapI (1 + m) (by omega) (by omega)]
  refine Tot.optE (fnewQ k (by omega) (by omega)) ?_
  refine Tot.optE (fnewQ k (by omega) (by omega)) ?_
  refine Tot.no rfl <| Tot.no rfl <| Tot.no rfl ?_
  generalize hn : 1 + m = n
  refine Tot.iter (fun s => s.1 = n ∧ s.2.1 = k ∧ s.2.2.1 = sees ∧ 0 ≤ s.2.2.2.2.2.1 ∧ s.2.2.2.2.2.1 ≤ n ∧ Led 99 s.2.2.2.2.2.1.toNat s.2.2.2.2.2.2.1 ∧ s.2.2.2.2.1 = []
      ∧ s.2.2.2.2.2.2.2.1 = fd k (s.2.2.2.2.2.1 - 1) (max (s.2.2.2.2.2.1 - 1 - k) (-1)) ∧ s.2.2.2.1 = up (max (s.2.2.2.2.2.1 - 1 - k) (-1) + 1).toNat ∧ s.2.2.2.2.2.2.2.2.1 = fd k (-1) (-1))
    (fun s => (n - s.2.2.2.2.2.1).toNat) ?_ _ _ ⟨rfl, rfl, rfl, by dsimp only; omega, by dsimp only; omega, Led.new 99, rfl, ?_, ?_, rfl⟩ (by dsimp only; unfold BIG; omega)
  · rintro ⟨n', k', sees', t1, t2, i, L, f1, f2, u⟩ ⟨q1, q2, q3, q4, q5, q6, q7, q8, q9, q10⟩ ih hih
    dsimp only at *
    subst q1; subst q2; subst q3; subst q7; subst q10
    unfold feedLeaps_l0; dsimp only
    refine Tot.cond (fun hb => ?_) (fun hb => ?_)
    · have hb := of_decide_eq_true hb
      rw [wrapI (i - 1) (by omega) (by omega), wrapI (i + 1) (by omega) (by omega)]
      have ha := laddQ (n := i.toNat) q6 (by omega) (by omega)
      rw [Int.toNat_of_nonneg q4] at ha
      refine Tot.opt ha fun r hr => ?_
      refine Tot.no (by rw [hr.2]; rfl) ?_
      rw [q8]
      refine Tot.opt (fseeQ hr.1 (by omega) k' (i - 1) (max (i - 1 - k') (-1)) i (by omega) (by omega) (by omega) (by omega) (by omega) (by omega) (by omega) (by omega) (by omega) (by omega)) fun r8 h8 => ?_
      obtain ⟨e1, e2, e3⟩ := h8
      have hm : max (max (i - 1 - k') (-1)) (i - k') = max (i - k') (-1) := by omega
      rw [hm] at e1 e2
      have e2' : t1 ++ r8.2.2.1 = up (max (i - k') (-1) + 1).toNat := by rw [q9]; exact e2
      have hl : t1.length + r8.2.2.1.length = (max (i - k') (-1) + 1).toNat := by rw [← List.length_append, e2', up_length]
      have hl1 : t1.length = (max (i - 1 - k') (-1) + 1).toNat := by rw [q9, up_length]
      refine Tot.no (by rw [e3]; rfl) ?_
      refine Tot.no (dF (by omega)) ?_
      refine Tot.need (dT (by omega)) ?_
      have hi : i + 1 - 1 = i := by omega
      exact hih _ ⟨rfl, rfl, rfl, by dsimp only; omega, by dsimp only; omega, by dsimp only; rw [show (i + 1).toNat = i.toNat + 1 by omega]; exact hr.1, rfl, by dsimp only; rw [hi]; exact e1, by dsimp only; rw [hi]; exact e2', rfl⟩ (by dsimp only; omega)
    · have hb := of_decide_eq_false hb
      have hi : i = n' := by omega
      subst hi
      rw [q8, q9]
      exact feedLeaps_l1_ok i k' sees' q6 (by omega) (by omega) k1 k2 (by omega)
  · dsimp only
    rw [show max (0 - 1 - k) (-1) = -1 by omega]; rfl
  · dsimp only
    rw [show (max (0 - 1 - k) (-1) + 1).toNat = 0 by omega]; rfl
end Go.Eng
