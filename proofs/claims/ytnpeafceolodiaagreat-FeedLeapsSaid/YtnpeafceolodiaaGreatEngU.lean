/- The engine, part U: bodies. -/
import Derived.Test.YtnpeafceolodiaaGreatEngT
namespace Go.Eng
open Go.RowKit

section
variable {P : Program} {E : Env} {Mu : Nat → Prop} {nt : Nat} {S : St} {c c' : Cx} {a : Act} {ops : Array Oper}

theorem Rel.drawn (h : Rel Mu nt S c a) (n : Nat) : Rel Mu nt S (c.setW { c.w with drawn := n }) a ∧ Step Mu c (c.setW { c.w with drawn := n }) := by
  have hl : Later c (c.setW { c.w with drawn := n }) := ⟨rfl, fun _ _ => .inr (.inl rfl), fun _ _ h => h, fun _ _ _ _ h => h⟩
  refine ⟨h.objs' hl (fun _ => rfl) (h.objs.move hl rfl (fun _ _ _ => rfl) (fun m b hb => (h.objs.free m b hb).2) (Nat.le_refl _) h.objs.rlt), hl, Nat.le_refl _, fun _ _ h => .inl h, fun _ _ _ => rfl, rfl, rfl, rfl⟩

theorem exec_sound {ω : Type} {z : ω} (hE : EnvOk P E) (hm : P.follows .mixedOrders = true) {fuel : Nat} : ∀ (code : Code) (b : Nat) (S : St) (c : Cx) (a : Act) (K : Exit → St → Option ω) (Q : Exit → Act → World → Prop), (∀ b, c.w.heap.size ≤ b → Mu b) → Rel Mu E.nt S c a →
    exec E fuel b code S K = some z → (∀ e S' c' a', K e S' = some z → Rel Mu E.nt S' c' a' → Goes Mu E.pars c c' → Q e a' c'.w) → code.wp P Q a c.w := by
  intro code
  induction code with
  | skip =>
    intro b S c a K Q hMu h hr hQ
    exact wp_skip (hQ _ S c a hr h (Goes.refl c))
  | exit id =>
    intro b S c a K Q hMu h hr hQ
    exact wp_exit (hQ _ S c a hr h (Goes.refl c))
  | ret =>
    intro b S c a K Q hMu h hr hQ
    exact wp_ret (hQ _ S c a hr h (Goes.refl c))
  | region id ops draws =>
    intro b S c a K Q hMu h hr hQ
    cases draws with
    | false =>
      simp only [exec] at hr
      have := execOps_sound (P := P) (ops := ops) (Q := Q) hE ops.toList 0 S c a hMu (fun i o ho => by simpa using ho) h hr fun S' c' a' h1 h2 h3 => hQ _ S' c' a' h1 h2 h3.goes
      refine wp_region ?_
      rw [List.range_eq_range']
      simpa using this
    | true =>
      simp only [exec] at hr
      obtain ⟨items, hi, hk⟩ := items_of hr
      obtain ⟨h1, s1⟩ := h.drawn (c.w.drawn + 1)
      refine wp_region_any hm ?_
      have h0 : SL (lst (Array.replicate ops.size false)) (items.map (·.1)) 0 S = S := by
        have : ∀ (ds : List (List (Loc × V))) (i : Nat) (S : St), SL (lst (Array.replicate ops.size false)) ds i S = S := by
          intro ds
          induction ds with
          | nil => intros; rfl
          | cons δ ds ih =>
            intro i S
            have : lst (Array.replicate ops.size false) i = false := by
              unfold lst
              rw [Array.getD_eq_getD_getElem?, Array.getElem?_replicate]
              split <;> rfl
            simp only [SL, this, Bool.false_eq_true, if_false]
            exact ih _ _
        exact this _ _ _
      have hcl : ∀ j, lst (Array.replicate ops.size false) j = true → ∀ i, ((bfs ops.toList []).getD j 0).testBit i = true → lst (Array.replicate ops.size false) i = true := by
        intro j hj
        have : lst (Array.replicate ops.size false) j = false := by
          unfold lst
          rw [Array.getD_eq_getD_getElem?, Array.getElem?_replicate]
          split <;> rfl
        rw [this] at hj; simp at hj
      have hleft : left ops.size (Array.replicate ops.size false) ≤ ops.size := by
        unfold left
        have := List.length_filter_le (fun i => !lst (Array.replicate ops.size false) i) (List.range ops.size)
        simpa using this
      exact draw_any hE hi ops.size _ (c.setW { c.w with drawn := c.w.drawn + 1 }) a hMu (by simp) hleft hcl (by rw [h0]; exact h1) fun c' a' h2 s2 => hQ _ _ c' a' hk h2 (s1.trans s2).goes
  | seq x y ihx ihy =>
    intro b S c a K Q hMu h hr hQ
    simp only [exec] at hr
    refine wp_seq (ihx b S c a _ _ hMu h hr fun e S' c' a' hk h1 g1 => ?_)
    cases e with
    | normal =>
      exact ihy b S' c' a' K Q (fun b hb => hMu b (Nat.le_trans g1.size hb)) h1 hk fun e S'' c'' a'' h2 h3 g2 => hQ e S'' c'' a'' h2 h3 (g1.trans g2)
    | exit i => exact hQ _ S' c' a' hk h1 g1
    | goto i => exact hQ _ S' c' a' hk h1 g1
    | ret => exact hQ _ S' c' a' hk h1 g1
    | panic ch => exact hQ _ S' c' a' hk h1 g1
    | outgrown => exact hQ _ S' c' a' hk h1 g1
  | cond co x y ihx ihy =>
    intro b S c a K Q hMu h hr hQ
    simp only [exec] at hr
    cases co <;> simp only [reduceCtorEq] at hr
    rename_i t
    cases hS : S (.tmp t) <;> rw [hS] at hr <;> simp only [reduceCtorEq] at hr
    rename_i q
    have ht := h.tmp t
    rw [hS] at ht
    have ht : a.eval (.tmp t) = .bool q := ht.bool
    have hs : S.set (.tmp t) (.bool q) = S := St.set_id _ _ _ hS
    refine wp_cond ht ?_
    cases q
    · rw [hs] at hr
      exact ihy b S c a K Q hMu h hr hQ
    · rw [hs] at hr
      exact ihx b S c a K Q hMu h hr hQ
  | block id x ih =>
    intro b S c a K Q hMu h hr hQ
    simp only [exec] at hr
    refine wp_block (ih id S c a _ _ hMu h hr fun e S' c' a' hk h1 g1 => ?_)
    cases e with
    | exit i =>
      simp only [nat_beq] at hk
      simp only [Exit.inBlock]
      by_cases e : i = id
      · subst e
        simp at hk
        simpa using hQ _ S' c' a' hk h1 g1
      · simp [e] at hk
        simpa [e] using hQ _ S' c' a' hk h1 g1
    | normal => exact hQ _ S' c' a' hk h1 g1
    | goto i => exact hQ _ S' c' a' hk h1 g1
    | ret => exact hQ _ S' c' a' hk h1 g1
    | panic ch => exact hQ _ S' c' a' hk h1 g1
    | outgrown => exact hQ _ S' c' a' hk h1 g1
  | loop x ih =>
    intro b S c a K Q hMu h hr hQ
    simp only [exec] at hr
    obtain ⟨y, c1, h1, h2, g1, w1⟩ := head_sound h hr
    have key : ∀ (n : Nat) (y : DS (E.slots b)) (c1 : Cx) (a1 : Act), (∀ b, c1.w.heap.size ≤ b → Mu b) → Rel Mu E.nt (mkS (E.slots b) y loopName) c1 a1 → Goes Mu E.pars c c1 → loopRun E.pars (E.slots b) (exec E fuel b x) n y K = some z → Code.rounds P x Q n a1 c1.w := by
      intro n
      induction n with
      | zero => intro y c1 a1 _ _ _ hl; simp [loopRun, iter] at hl
      | succ n ihn =>
        intro y c1 a1 hMu1 h2 g1 hl
        rw [loopRun_succ] at hl
        rw [rounds_succ]
        refine ih b _ c1 a1 _ _ hMu1 h2 hl fun e S' c' a' hk h3 g3 => ?_
        cases e with
        | normal =>
          obtain ⟨y', c2, h4, h5, g5, w5⟩ := head_sound h3 hk
          have := ihn y' c2 a' (fun b hb => hMu1 b (Nat.le_trans (Nat.le_trans g3.size g5.size) hb)) h5 ((g1.trans g3).trans g5) h4
          rw [w5] at this
          exact this
        | exit i => exact hQ _ S' c' a' hk h3 (g1.trans g3)
        | goto i => exact hQ _ S' c' a' hk h3 (g1.trans g3)
        | ret => exact hQ _ S' c' a' hk h3 (g1.trans g3)
        | panic ch => exact hQ _ S' c' a' hk h3 (g1.trans g3)
        | outgrown => exact hQ _ S' c' a' hk h3 (g1.trans g3)
    refine wp_loop_rounds fuel ?_
    rw [← w1]
    exact key fuel y c1 a (fun b hb => hMu b (Nat.le_trans g1.size hb)) h2 g1 h1
  | _ =>
    intro b S c a K Q hMu h hr hQ
    simp [exec] at hr

end
end Go.Eng
