/- Plain law, part A: rules for twins; hashes are always made. -/
import Derived.Test.YtnpeafceolodiaaGreatCt1
namespace Go.Eng
open Go.Proofs
set_option linter.unusedVariables false
set_option maxRecDepth 100000

def Tot {ω : Type} (o : Option ω) (Q : ω → Prop) : Prop := ∃ z, o = some z ∧ Q z

theorem Tot.ok {ω : Type} {Q : ω → Prop} {z : ω} (h : Q z) : Tot (some z) Q := ⟨z, rfl, h⟩
theorem Tot.mono {ω : Type} {Q Q' : ω → Prop} {o : Option ω} (h : Tot o Q) (hq : ∀ z, Q z → Q' z) : Tot o Q' :=
  let ⟨z, e, q⟩ := h; ⟨z, e, hq z q⟩
theorem Tot.opt {β ω : Type} {P : β → Prop} {Q : ω → Prop} {o : Option β} {k : β → Option ω} (h : Tot o P) (hk : ∀ z, P z → Tot (k z) Q) : Tot (Go.Eng.opt o k) Q := by
  obtain ⟨z, e, q⟩ := h; subst e; exact hk z q
theorem Tot.optE {β ω : Type} {Q : ω → Prop} {o : Option β} {k : β → Option ω} {z : β} (h : o = some z) (hk : Tot (k z) Q) : Tot (Go.Eng.opt o k) Q := by
  subst h; exact hk
theorem Tot.need {ω : Type} {Q : ω → Prop} {b : Bool} {k : Option ω} (h : b = true) (hk : Tot k Q) : Tot (Go.Eng.need b k) Q := by
  subst h; exact hk
theorem Tot.cond {ω : Type} {Q : ω → Prop} {b : Bool} {x y : Option ω} (hx : b = true → Tot x Q) (hy : b = false → Tot y Q) : Tot (bif b then x else y) Q := by
  cases b
  · exact hy rfl
  · exact hx rfl
theorem Tot.yes {ω : Type} {Q : ω → Prop} {b : Bool} {x y : Option ω} (h : b = true) (hx : Tot x Q) : Tot (bif b then x else y) Q := by
  subst h; exact hx
theorem Tot.no {ω : Type} {Q : ω → Prop} {b : Bool} {x y : Option ω} (h : b = false) (hy : Tot y Q) : Tot (bif b then x else y) Q := by
  subst h; exact hy

theorem Tot.iter {α ω : Type} {step : (α → Option ω) → α → Option ω} (Inv : α → Prop) (μ : α → Nat) {Q : ω → Prop}
    (h : ∀ x, Inv x → ∀ ih : α → Option ω, (∀ y, Inv y → μ y < μ x → Tot (ih y) Q) → Tot (step ih x) Q) :
    ∀ (n : Nat) (x : α), Inv x → μ x < n → Tot (Go.Eng.iter step n x) Q := by
  intro n
  induction n with
  | zero => intro x _ hm; omega
  | succ n ihn =>
    intro x hx hm
    exact h x hx _ (fun y hy hl => ihn y hy (by omega))

theorem wrapI (n : Int) (h1 : -9223372036854775808 ≤ n) (h2 : n < 9223372036854775808) : IntKind.wrap IntKind.i64 n = n := by
  unfold IntKind.wrap IntKind.signed IntKind.bits
  simp only [Bool.true_and, decide_eq_true_eq]
  split <;> omega
theorem wrapU (n : Int) (h1 : 0 ≤ n) (h2 : n < 18446744073709551616) : IntKind.wrap IntKind.u64 n = n := by
  unfold IntKind.wrap IntKind.signed IntKind.bits
  simp only [Bool.false_and, Bool.false_eq_true, if_false]
  omega
theorem wrapU_pos (n : Int) : 0 ≤ IntKind.wrap IntKind.u64 n := by
  unfold IntKind.wrap IntKind.signed IntKind.bits
  simp only [Bool.false_and, Bool.false_eq_true, if_false]
  omega
theorem wrapU_lt (n : Int) : IntKind.wrap IntKind.u64 n < 18446744073709551616 := by
  unfold IntKind.wrap IntKind.signed IntKind.bits
  simp only [Bool.false_and, Bool.false_eq_true, if_false]
  omega

theorem getI_some {α : Type} {l : List α} {i : Int} (h0 : 0 ≤ i) (h1 : i < l.length) : ∃ x, getI l i = some x ∧ l[i.toNat]? = some x := by
  cases i with
  | ofNat n =>
    have hn : n < l.length := by
      have : ((n : Nat) : Int) < l.length := h1
      omega
    exact ⟨l[n], List.getElem?_eq_getElem hn, List.getElem?_eq_getElem hn⟩
  | negSucc n => exact absurd h0 (by omega)
theorem idx_some {α : Type} {l : List α} {i : Nat} (h1 : i < l.length) : Tot l[i]? (fun x => l[i]? = some x) :=
  ⟨l[i], List.getElem?_eq_getElem h1, List.getElem?_eq_getElem h1⟩
theorem Tot.getI {α : Type} {l : List α} {i : Int} (h0 : 0 ≤ i) (h1 : i < l.length) : Tot (Go.Eng.getI l i) (fun x => l[i.toNat]? = some x) := by
  obtain ⟨x, h, h'⟩ := getI_some h0 h1
  exact ⟨x, h, h'⟩
theorem maxI_eq (a b : Int) : maxI a b = max a b := by unfold maxI; split <;> omega
theorem minI_eq (a b : Int) : minI a b = min a b := by unfold minI; split <;> omega
theorem inI_of {i : Int} {n : Nat} (h0 : 0 ≤ i) (h1 : i < n) : inI i n = true := by simp [inI, h0, h1]
theorem inS_of {i n : Int} (h0 : 0 ≤ i) (h1 : i < n) : inS i n = true := by simp [inS, h0, h1]
theorem okCut_of {lo hi : Int} {n : Nat} (h0 : 0 ≤ lo) (h1 : lo ≤ hi) (h2 : hi ≤ n) : okCut lo hi n = true := by simp [okCut, h0, h1, h2]
theorem cut_length {α : Type} (l : List α) (lo hi : Nat) : (cut l lo hi).length = min hi l.length - lo := by simp [cut]
theorem dT {p : Prop} [Decidable p] (h : p) : decide p = true := decide_eq_true h
theorem dF {p : Prop} [Decidable p] (h : ¬ p) : decide p = false := decide_eq_false h

/-! ### hashes -/

theorem rotl_tot (a b : Int) : Tot (rotl BIG a b) (fun _ => True) := by
  unfold rotl
  exact Tot.need (dT (wrapU_pos _)) (.ok trivial)

theorem high_tot (l : List Int) (h : l.length ≤ 100) : Tot (high BIG l) (fun _ => True) := by
  unfold high
  refine Tot.iter (fun s => s.2.1 = l ∧ s.2.2.1 = (l.length : Int) ∧ 0 ≤ s.2.2.2.1 ∧ s.2.2.2.1 ≤ (l.length : Int)) (fun s => ((l.length : Int) - s.2.2.2.1).toNat) ?_ _ _ ⟨rfl, rfl, by dsimp only; omega, by dsimp only; omega⟩ (by dsimp only; unfold BIG; omega)
  rintro ⟨x, l', n, i, u⟩ ⟨e1, e2, hi0, hi1⟩ ih hih
  dsimp only at *
  subst e1; subst e2
  unfold high_l0; dsimp only
  refine Tot.cond (fun hb => ?_) (fun _ => .ok trivial)
  have hb := of_decide_eq_true hb
  refine Tot.opt (Tot.getI hi0 hb) fun r _ => ?_
  rw [wrapI (i + 1) (by omega) (by omega)]
  exact hih _ ⟨rfl, rfl, by dsimp only; omega, by dsimp only; omega⟩ (by dsimp only; omega)

theorem padded_tot (l : List Int) (h : l.length ≤ 100) : Tot (padded BIG l) (fun z => z.2.1.length % 64 = 0 ∧ z.2.1.length ≤ 400) := by
  unfold padded
  refine Tot.need (dT (by simp; omega)) <| Tot.need (dT (by simp; omega)) ?_
  refine Tot.iter (fun s => s.1 = l ∧ s.2.1.length ≤ l.length + 1 + (if s.2.1.length % 64 = 56 then 63 else 63) ∧ l.length + 1 ≤ s.2.1.length ∧ (∀ k, l.length + 1 ≤ k → k < s.2.1.length → k % 64 ≠ 56)) (fun s => 1000 - s.2.1.length) ?_ _ _ ⟨rfl, by simp, by simp, by simp; intro k h1 h2; omega⟩ (by simp; unfold BIG; omega)
  rintro ⟨x, l', u⟩ ⟨rfl, h1, h2, h3⟩ ih hih
  dsimp only at *
  have h1' : l'.length ≤ x.length + 64 := by split at h1 <;> omega
  unfold padded_l0; dsimp only
  refine Tot.cond (fun hb => ?_) (fun hb => ?_)
  · have hne : l'.length % 64 ≠ 56 := by
      intro he
      have : (Int.tmod (l'.length : Int) 64) = 56 := by
        rw [Int.tmod_eq_emod_of_nonneg (by omega)]; omega
      rw [this] at hb; simp at hb
    refine Tot.need (dT (by simp; omega)) ?_
    have hl : l'.length < x.length + 1 + 63 := by
      by_cases hc : l'.length = x.length + 1 + 63
      · exfalso
        have hz : ∃ k, x.length + 1 ≤ k ∧ k < x.length + 1 + 64 ∧ k % 64 = 56 := ⟨x.length + 1 + (56 + 64 - (x.length + 1) % 64) % 64, by omega, by omega, by omega⟩
        obtain ⟨k, k1, k2, k3⟩ := hz
        by_cases hk : k < l'.length
        · exact h3 k k1 hk k3
        · have : k = l'.length := by omega
          exact hne (this ▸ k3)
      · split at h1 <;> omega
    refine hih _ ⟨rfl, ?_, ?_, ?_⟩ ?_
    · simp only [List.length_append, List.length_cons, List.length_nil]; split <;> omega
    · simp; omega
    · intro k k1 k2
      simp only [List.length_append, List.length_cons, List.length_nil] at k2
      by_cases hk : k < l'.length
      · exact h3 k k1 hk
      · have : k = l'.length := by omega
        exact this ▸ hne
    · simp; omega
  · have he : l'.length % 64 = 56 := by
      have : (Int.tmod (l'.length : Int) 64) = 56 := by simpa using hb
      rw [Int.tmod_eq_emod_of_nonneg (by omega)] at this; omega
    refine Tot.iter (fun s => -1 ≤ s.2.2.1 ∧ s.2.2.1 ≤ 7 ∧ (s.1.length : Int) + s.2.2.1 = l'.length + 7) (fun s => (s.2.2.1 + 1).toNat) ?_ _ _ ⟨by dsimp only; omega, by dsimp only; omega, by dsimp only⟩ (by dsimp only; unfold BIG; omega)
    rintro ⟨m, v, i, u⟩ ⟨q1, q2, q3⟩ ih2 hih2
    dsimp only at *
    unfold padded_l1; dsimp only
    refine Tot.cond (fun hb => ?_) (fun hb => ?_)
    · have hb := of_decide_eq_true hb
      rw [wrapI (8 * i) (by omega) (by omega), wrapI (i - 1) (by omega) (by omega)]
      refine Tot.need (dT (by omega)) <| Tot.need (dT (by simp only [List.length_cons, List.length_nil]; omega)) ?_
      exact hih2 _ ⟨by dsimp only; omega, by dsimp only; omega, by simp only [List.length_append, List.length_cons, List.length_nil]; omega⟩ (by dsimp only; omega)
    · have hb := of_decide_eq_false hb
      exact .ok ⟨by dsimp only; omega, by dsimp only; omega⟩

def SumInv (s : List Int × List Int × List Int × List Int × Unit) : Prop := s.1.length = 64 ∧ s.2.1.length % 64 = 0 ∧ s.2.1.length ≤ 400 ∧ s.2.2.1.length = 32 ∧ s.2.2.2.1.length = 8
theorem idx {α : Type} {l : List α} {i : Int} {n : Nat} (e : l.length = n) (h0 : 0 ≤ i) (h1 : i < n) : Tot (l[i.toNat]?) (fun _ => True) := by
  refine (idx_some (l := l) (i := i.toNat) (by omega)).mono fun _ _ => trivial
theorem rotlQ (a b : Int) : Tot (rotl BIG a b) (fun _ => True) := rotl_tot a b

theorem sum_l4_tot (fR fP fH fR2) (s : Int × List Int × List Int × List Int × Unit) (h0 : 0 ≤ s.1) (h1 : s.1 ≤ 32) (h2 : s.2.2.1.length = 8) : Tot (iter (sum_l4 BIG fR fP fH fR2) BIG s) (fun _ => True) := by
  refine Tot.iter (fun s => 0 ≤ s.1 ∧ s.1 ≤ 32 ∧ s.2.2.1.length = 8) (fun s => (32 - s.1).toNat) ?_ _ _ ⟨h0, h1, h2⟩ (by unfold BIG; omega)
  rintro ⟨i, a, b, c, u⟩ ⟨h0, h1, h2⟩ ih hih
  dsimp only at *
  unfold sum_l4; dsimp only
  refine Tot.cond (fun hb => ?_) (fun _ => .ok trivial)
  have hb := of_decide_eq_true hb
  rw [wrapI (Int.tdiv i 4) (by rw [Int.tdiv_eq_ediv_of_nonneg h0]; omega) (by rw [Int.tdiv_eq_ediv_of_nonneg h0]; omega)]
  rw [wrapI (8 * Int.tmod i 4) (by rw [Int.tmod_eq_emod_of_nonneg h0]; omega) (by rw [Int.tmod_eq_emod_of_nonneg h0]; omega)]
  rw [wrapI (24 - 8 * Int.tmod i 4) (by rw [Int.tmod_eq_emod_of_nonneg h0]; omega) (by rw [Int.tmod_eq_emod_of_nonneg h0]; omega)]
  rw [wrapI (i + 1) (by omega) (by omega)]
  refine Tot.need (inI_of (by rw [Int.tdiv_eq_ediv_of_nonneg h0]; omega) (by rw [Int.tdiv_eq_ediv_of_nonneg h0]; omega)) ?_
  refine Tot.opt (idx h2 (by rw [Int.tdiv_eq_ediv_of_nonneg h0]; omega) (by rw [Int.tdiv_eq_ediv_of_nonneg h0]; omega)) fun _ _ => ?_
  refine Tot.need (dT (by rw [Int.tmod_eq_emod_of_nonneg h0]; omega)) <| Tot.need (inI_of h0 hb) ?_
  exact hih _ ⟨by dsimp only; omega, by dsimp only; omega, h2⟩ (by dsimp only; omega)

section
variable (ih1 : (List Int × List Int × List Int × List Int × Unit) → Option (Unit × List Int × Unit)) (N : Nat)
theorem sum_l3_tot (fR fP fH fR2) (hI : ∀ y, SumInv y → y.2.1.length < N → Tot (ih1 y) (fun _ => True))
    (s : List Int × List Int × Int × List Int × List Int × List Int × Unit) (a1 : s.1.length = 64) (a2 : s.2.1.length % 64 = 0) (a3 : s.2.1.length ≤ 400) (a4 : s.2.1.length ≤ N) (a5 : 0 < s.2.1.length)
    (h0 : 0 ≤ s.2.2.1) (h1 : s.2.2.1 ≤ 8) (b1 : s.2.2.2.1.length = 32) (b2 : s.2.2.2.2.1.length = 8) (b3 : s.2.2.2.2.2.1.length = 8) :
    Tot (iter (sum_l3 BIG fR fP fH fR2 ih1) BIG s) (fun _ => True) := by
  refine Tot.iter (fun s => s.1.length = 64 ∧ s.2.1.length % 64 = 0 ∧ s.2.1.length ≤ 400 ∧ s.2.1.length ≤ N ∧ 0 < s.2.1.length ∧ 0 ≤ s.2.2.1 ∧ s.2.2.1 ≤ 8 ∧ s.2.2.2.1.length = 32 ∧ s.2.2.2.2.1.length = 8 ∧ s.2.2.2.2.2.1.length = 8) (fun s => (8 - s.2.2.1).toNat) ?_ _ _ ⟨a1, a2, a3, a4, a5, h0, h1, b1, b2, b3⟩ (by unfold BIG; omega)
  clear a1 a2 a3 a4 a5 h0 h1 b1 b2 b3
  rintro ⟨r, l, i, o, a, b, u⟩ ⟨a1, a2, a3, a4, a5, h0, h1, b1, b2, b3⟩ ih hih
  dsimp only at *
  unfold sum_l3; dsimp only
  refine Tot.cond (fun hb => ?_) (fun hb => ?_)
  · have hb := of_decide_eq_true hb
    rw [wrapI (i + 1) (by omega) (by omega)]
    refine Tot.need (inI_of h0 hb) <| Tot.opt (idx b2 h0 hb) fun _ _ => Tot.need (inI_of h0 hb) <| Tot.opt (idx b3 h0 hb) fun _ _ => Tot.need (inI_of h0 hb) ?_
    exact hih _ ⟨a1, a2, a3, a4, a5, by dsimp only; omega, by dsimp only; omega, b1, by simpa using b2, b3⟩ (by dsimp only; omega)
  · refine Tot.need (okCut_of (by omega) (by omega) (by omega)) ?_
    have hl : (cut l (64 : Int).toNat ((l.length : Nat) : Int).toNat).length = l.length - 64 := by
      rw [cut_length]
      show min l.length l.length - 64 = l.length - 64
      omega
    exact hI _ ⟨a1, by dsimp only; rw [hl]; omega, by dsimp only; rw [hl]; omega, b1, b2⟩ (by dsimp only; rw [hl]; omega)

theorem sum_l2_tot (fR fP fH) (hI : ∀ y, SumInv y → y.2.1.length < N → Tot (ih1 y) (fun _ => True))
    (s : List Int × List Int × Int × List Int × List Int × List Int × List Int × Unit) (a1 : s.1.length = 64) (a2 : s.2.1.length % 64 = 0) (a3 : s.2.1.length ≤ 400) (a4 : s.2.1.length ≤ N) (a5 : 0 < s.2.1.length)
    (h0 : 0 ≤ s.2.2.1) (h1 : s.2.2.1 ≤ 64) (b1 : s.2.2.2.1.length = 32) (b2 : s.2.2.2.2.1.length = 8) (b3 : s.2.2.2.2.2.1.length = 64) (b4 : s.2.2.2.2.2.2.1.length = 8) :
    Tot (iter (sum_l2 BIG fR fP fH Q_rotl.F ih1) BIG s) (fun _ => True) := by
  refine Tot.iter (fun s => s.1.length = 64 ∧ s.2.1.length % 64 = 0 ∧ s.2.1.length ≤ 400 ∧ s.2.1.length ≤ N ∧ 0 < s.2.1.length ∧ 0 ≤ s.2.2.1 ∧ s.2.2.1 ≤ 64 ∧ s.2.2.2.1.length = 32 ∧ s.2.2.2.2.1.length = 8 ∧ s.2.2.2.2.2.1.length = 64 ∧ s.2.2.2.2.2.2.1.length = 8) (fun s => (64 - s.2.2.1).toNat) ?_ _ _ ⟨a1, a2, a3, a4, a5, h0, h1, b1, b2, b3, b4⟩ (by unfold BIG; omega)
  clear a1 a2 a3 a4 a5 h0 h1 b1 b2 b3 b4
  rintro ⟨r, l, i, o, a, b, c, u⟩ ⟨a1, a2, a3, a4, a5, h0, h1, b1, b2, b3, b4⟩ ih hih
  dsimp only at *
  unfold sum_l2; dsimp only
  refine Tot.cond (fun hb => ?_) (fun hb => ?_)
  · have hb := of_decide_eq_true hb
    rw [wrapI (i + 1) (by omega) (by omega)]
    refine Tot.opt (idx b4 (by omega) (by omega)) fun _ _ => Tot.opt (idx b4 (by omega) (by omega)) fun _ _ => ?_
    refine Tot.opt (rotlQ _ _) fun _ _ => Tot.opt (rotlQ _ _) fun _ _ => Tot.opt (rotlQ _ _) fun _ _ => ?_
    refine Tot.opt (idx b4 (by omega) (by omega)) fun _ _ => Tot.opt (idx b4 (by omega) (by omega)) fun _ _ => Tot.opt (idx b4 (by omega) (by omega)) fun _ _ => ?_
    refine Tot.opt (Tot.getI h0 (by omega)) fun _ _ => Tot.need (inI_of h0 hb) <| Tot.opt (idx b3 h0 hb) fun _ _ => ?_
    refine Tot.opt (rotlQ _ _) fun _ _ => Tot.opt (rotlQ _ _) fun _ _ => Tot.opt (rotlQ _ _) fun _ _ => ?_
    refine Tot.opt (idx b4 (by omega) (by omega)) fun _ _ => Tot.opt (idx b4 (by omega) (by omega)) fun _ _ => Tot.opt (idx b4 (by omega) (by omega)) fun _ _ => ?_
    refine Tot.opt (idx b4 (by omega) (by omega)) fun _ _ => Tot.opt (idx b4 (by omega) (by omega)) fun _ _ => Tot.opt (idx b4 (by omega) (by omega)) fun _ _ => ?_
    refine Tot.opt (idx b4 (by omega) (by omega)) fun _ _ => Tot.opt (idx b4 (by omega) (by omega)) fun _ _ => Tot.opt (idx b4 (by omega) (by omega)) fun _ _ => ?_
    exact hih _ ⟨a1, a2, a3, a4, a5, by dsimp only; omega, by dsimp only; omega, b1, b2, b3, by simp only [List.length_set, List.length_replicate]⟩ (by dsimp only; omega)
  · exact sum_l3_tot ih1 N _ _ _ _ hI _ a1 a2 a3 a4 a5 (by dsimp only; omega) (by dsimp only; omega) b1 b2 b4

theorem sum_l1_tot (fR fP) (hI : ∀ y, SumInv y → y.2.1.length < N → Tot (ih1 y) (fun _ => True))
    (s : List Int × List Int × Int × List Int × List Int × List Int × Unit) (a1 : s.1.length = 64) (a2 : s.2.1.length % 64 = 0) (a3 : s.2.1.length ≤ 400) (a4 : s.2.1.length ≤ N) (a5 : 0 < s.2.1.length)
    (h0 : 0 ≤ s.2.2.1) (h1 : s.2.2.1 ≤ 64) (b1 : s.2.2.2.1.length = 32) (b2 : s.2.2.2.2.1.length = 8) (b3 : s.2.2.2.2.2.1.length = 64) :
    Tot (iter (sum_l1 BIG fR fP Q_high.F Q_rotl.F ih1) BIG s) (fun _ => True) := by
  refine Tot.iter (fun s => s.1.length = 64 ∧ s.2.1.length % 64 = 0 ∧ s.2.1.length ≤ 400 ∧ s.2.1.length ≤ N ∧ 0 < s.2.1.length ∧ 0 ≤ s.2.2.1 ∧ s.2.2.1 ≤ 64 ∧ s.2.2.2.1.length = 32 ∧ s.2.2.2.2.1.length = 8 ∧ s.2.2.2.2.2.1.length = 64) (fun s => (64 - s.2.2.1).toNat) ?_ _ _ ⟨a1, a2, a3, a4, a5, h0, h1, b1, b2, b3⟩ (by unfold BIG; omega)
  clear a1 a2 a3 a4 a5 h0 h1 b1 b2 b3
  rintro ⟨r, l, i, o, a, b, u⟩ ⟨a1, a2, a3, a4, a5, h0, h1, b1, b2, b3⟩ ih hih
  dsimp only at *
  unfold sum_l1; dsimp only
  refine Tot.cond (fun hb => ?_) (fun hb => ?_)
  · have hb := of_decide_eq_true hb
    rw [wrapI (i + 1) (by omega) (by omega)]
    refine Tot.cond (fun hc => ?_) (fun hc => ?_)
    · have hc := of_decide_eq_true hc
      rw [wrapI (4 * i) (by omega) (by omega), wrapI (4 * i + 4) (by omega) (by omega)]
      refine Tot.need (okCut_of (by omega) (by omega) (by omega)) ?_
      refine Tot.opt (high_tot _ (by rw [cut_length]; omega)) fun _ _ => Tot.need (inI_of h0 hb) ?_
      exact hih _ ⟨a1, a2, a3, a4, a5, by dsimp only; omega, by dsimp only; omega, b1, b2, by simpa using b3⟩ (by dsimp only; omega)
    · have hc := of_decide_eq_false hc
      rw [wrapI (i - 15) (by omega) (by omega), wrapI (i - 2) (by omega) (by omega), wrapI (i - 16) (by omega) (by omega), wrapI (i - 7) (by omega) (by omega)]
      refine Tot.need (inI_of (by omega) (by omega)) <| Tot.opt (idx b3 (by omega) (by omega)) fun _ _ => ?_
      refine Tot.need (inI_of (by omega) (by omega)) <| Tot.opt (idx b3 (by omega) (by omega)) fun _ _ => ?_
      refine Tot.opt (rotlQ _ _) fun _ _ => Tot.opt (rotlQ _ _) fun _ _ => Tot.opt (rotlQ _ _) fun _ _ => Tot.opt (rotlQ _ _) fun _ _ => ?_
      refine Tot.need (inI_of (by omega) (by omega)) <| Tot.opt (idx b3 (by omega) (by omega)) fun _ _ => ?_
      refine Tot.need (inI_of (by omega) (by omega)) <| Tot.opt (idx b3 (by omega) (by omega)) fun _ _ => ?_
      refine Tot.need (inI_of h0 hb) ?_
      exact hih _ ⟨a1, a2, a3, a4, a5, by dsimp only; omega, by dsimp only; omega, b1, b2, by simpa using b3⟩ (by dsimp only; omega)
  · exact sum_l2_tot ih1 N _ _ _ hI _ a1 a2 a3 a4 a5 (by dsimp only; omega) (by dsimp only; omega) b1 b2 b3 b2
end

theorem sum_tot (l : List Int) (h : l.length ≤ 100) : Tot (sum BIG Q_rounds.F Q_padded.F Q_high.F Q_rotl.F l) (fun _ => True) := by
  unfold sum
  refine Tot.opt (P := fun z => z.2.1.length = 64) ⟨_, rfl, rfl⟩ fun r hr => ?_
  refine Tot.opt (padded_tot l h) fun p hp => ?_
  refine Tot.iter SumInv (fun s => s.2.1.length) ?_ _ _ ⟨hr, hp.1, hp.2, by simp only [List.length_replicate], by simp only [List.length_set, List.length_replicate]⟩ (by have := hp.2; dsimp only; unfold BIG; omega)
  rintro ⟨r, l, o, a, u⟩ ⟨a1, a2, a3, b1, b2⟩ ih hih
  dsimp only at *
  unfold sum_l0; dsimp only
  refine Tot.cond (fun hb => ?_) (fun hb => ?_)
  · have hb := of_decide_eq_true hb
    exact sum_l1_tot ih l.length _ _ hih _ a1 a2 a3 (Nat.le_refl _) (by dsimp only; omega) (by dsimp only; omega) (by dsimp only; omega) b1 b2 (by simp only [List.length_replicate])
  · exact sum_l4_tot _ _ _ _ _ (by dsimp only; omega) (by dsimp only; omega) b2
end Go.Eng
