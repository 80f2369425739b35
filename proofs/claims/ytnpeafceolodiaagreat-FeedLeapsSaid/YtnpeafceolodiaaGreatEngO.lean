/- The engine, part O: single operations, all. -/
import Derived.Test.YtnpeafceolodiaaGreatEngN
namespace Go.Eng
open Go.RowKit

section
variable {P : Program} {E : Env} {Mu : Nat → Prop} {nt : Nat} {S : St} {c : Cx} {a : Act} {o : Oper} {δ : List (Loc × V)}

theorem op_builtin (hT : TabOk P E.tab) (hMu : ∀ b, c.w.heap.size ≤ b → Mu b) (h : Rel Mu nt S c a) {d : Nat} (hd : o.dst = some d) (hdn : d < nt) {cl : Call} {b : Builtin} (ho : o.op = .call cl) (hc : cl.callee = .builtin b)
    {vs : List V} (hv : (evs cl.args.toList).run S = some vs) (hr : (builtinV E d b cl.argTypes vs).run S = some δ) : OpOk P Mu nt S c a o δ := by
  obtain ⟨consts, hrun⟩ := builtin_run (P := P) ho hc (ρ := a.eval) (w := c.w)
  have hxs := evs_sound h hv
  unfold builtinV at hr
  split at hr
  · -- len
    rename_i x
    obtain ⟨y, hy, hxy⟩ := hxs.one
    split at hr
    · rename_i T hTs
      simp only [run_bind_some, run_ret, Option.some.injEq] at hr
      obtain ⟨n, hn, rfl⟩ := hr
      obtain ⟨q1, q2⟩ := lenV_sound (ty := o.type) hT h.objs hxy hn hTs
      refine OpOk.value' h hd hdn (x := .int .i64 n) ?_ ⟨rfl, q2⟩
      rw [hrun, args_one hy]
      simp only [builtin, Sem.run_bind, q1, Result.andThen_ok, Sem.run_pure]
    · simp at hr
  · -- append
    rename_i s x
    obtain ⟨y, z, hy, hsy, hxz⟩ := hxs.two
    split at hr
    · rename_i T T' hTs
      split at hr
      · rename_i e
        subst e
        refine appendV_sound hT hMu h hd hdn hsy hxz hr ?_
        intro out w' hw
        have : cl.argTypes = #[T', T'] := by apply Array.ext'; simpa using hTs
        rw [hrun, args_two hy, this]
        simp only [builtin, Sem.run_bind, hw, Result.andThen_ok, Sem.run_pure]
      · simp at hr
    · simp at hr
  · -- min
    rename_i k x k' y
    obtain ⟨p, q, hy, h1, h2⟩ := hxs.two
    obtain ⟨rfl, o1⟩ := h1.int
    obtain ⟨rfl, o2⟩ := h2.int
    split at hr
    · rename_i e
      subst e
      simp at hr
      subst hr
      refine OpOk.value' h hd hdn (x := .int k' (minI x y)) ?_ ⟨rfl, ?_⟩
      · rw [hrun, args_two hy]
        simp [builtin, Builtin.min_, Builtin.min2, minI]
      · unfold minI; split <;> assumption
    · simp at hr
  · -- max
    rename_i k x k' y
    obtain ⟨p, q, hy, h1, h2⟩ := hxs.two
    obtain ⟨rfl, o1⟩ := h1.int
    obtain ⟨rfl, o2⟩ := h2.int
    split at hr
    · rename_i e
      subst e
      simp at hr
      subst hr
      refine OpOk.value' h hd hdn (x := .int k' (maxI x y)) ?_ ⟨rfl, ?_⟩
      · rw [hrun, args_two hy]
        simp [builtin, Builtin.max_, Builtin.max2, maxI]
      · unfold maxI; split <;> assumption
    · simp at hr
  · simp at hr

/-- A call of a function. -/
def CallOp (P : Program) (E : Env) : Prop :=
  ∀ (Mu : Nat → Prop) (nt : Nat) (S : St) (c : Cx) (a : Act) (o : Oper) (d : Nat) (cl : Call) (f : FuncId) (q : Callee) (vs : List V) (δ : List (Loc × V)), (∀ b, c.w.heap.size ≤ b → Mu b) → Rel Mu nt S c a → o.dst = some d → d < nt →
    o.op = .call cl → cl.callee = .value (.func f) → E.call f = some q → (evs cl.args.toList).run S = some vs → (callV q d vs).run S = some δ → OpOk P Mu nt S c a o δ

structure EnvOk (P : Program) (E : Env) : Prop where
  tab : TabOk P E.tab
  deep : ∀ T t, E.tab T = some t → t.deep < 9000
  call : CallOp P E

theorem TyOk.under {tab : TypeId → Option Ty} {T : TypeId} {t : Ty} (h : TyOk P tab T t) : ∃ ds, P.underlying T = some ds := by
  have hd := h.desc
  cases t <;> simp only [TyDesc'] at hd
  case arr => obtain ⟨e, i, h1, _⟩ := hd; exact ⟨_, h1⟩
  case sl => obtain ⟨e, h1, _⟩ := hd; exact ⟨_, h1⟩
  case unit => obtain ⟨fs, h1, _⟩ := hd; exact ⟨_, h1⟩
  case prod => obtain ⟨fs, h1, _⟩ := hd; exact ⟨_, h1⟩
  case opq => obtain ⟨e, h1⟩ := hd; exact ⟨_, h1⟩
  case ifc => obtain ⟨e, h1⟩ := hd; exact ⟨_, h1⟩
  all_goals exact ⟨_, hd⟩

theorem copV_sound (hE : EnvOk P E) (hMu : ∀ b, c.w.heap.size ≤ b → Mu b) (h : Rel Mu nt S c a) {d : Nat} (hd : o.dst = some d) (hdn : d < nt) (hr : (copV E d o.op).run S = some δ) : OpOk P Mu nt S c a o δ := by
  have hT := hE.tab
  unfold copV at hr
  split at hr
  · rename_i T ho
    split at hr
    · rename_i t ht
      rw [run_newN_some] at hr
      obtain ⟨hu, hr⟩ := hr
      simp at hr; subst hr
      exact op_alloc hT hMu h hd hdn ho ht hu
    · simp at hr
  · rename_i T x ho
    split at hr
    · rename_i t ht
      simp only [run_bind_some, run_guard_some, run_newN_some, run_ret, Option.some.injEq] at hr
      obtain ⟨v, hv, hc, hu, rfl⟩ := hr
      exact op_box hT hMu h hd hdn ho ht hv hc hu
    · simp at hr
  · rename_i T ps ho
    split at hr
    · rename_i t ht
      simp only [run_guard_some, run_bind_some] at hr
      obtain ⟨hagg, vs, hv, hr⟩ := hr
      cases hb : buildS t vs (zeroV t) with
      | none => simp [hb] at hr
      | some v =>
        simp [hb] at hr; subst hr
        exact op_build hT h hd hdn ho ht hagg hv hb
    · simp at hr
  · rename_i T n ps ho
    split at hr
    · rename_i md t ht
      simp only [run_bind_some] at hr
      obtain ⟨vs, hv, hr⟩ := hr
      split at hr
      · rename_i hn
        simp only [run_bind_some] at hr
        obtain ⟨y, hy, hr⟩ := hr
        split at hr
        · rename_i h1 h2
          simp only [run_newN_some, run_ret, Option.some.injEq] at hr
          obtain ⟨hu, rfl⟩ := hr
          exact op_buildSlice hT hMu h hd hdn ho ht hv hn hy h1 h2 hu
        · simp at hr
      · simp at hr
    · simp at hr
  · rename_i T x ho
    simp only [run_bind_some, run_ret, Option.some.injEq] at hr
    obtain ⟨v, hv, u, hu, rfl⟩ := hr
    exact op_load hT h hd hdn ho hv hu
  · rename_i op T x y T' ho
    simp only [run_bind_some, run_ret, Option.some.injEq] at hr
    obtain ⟨u, hu, v, hv, z, hz, rfl⟩ := hr
    exact op_bin hT hE.deep h hd hdn ho hu hv hz
  · rename_i op T x ho
    simp only [run_bind_some, run_ret, Option.some.injEq] at hr
    obtain ⟨u, hu, z, hz, rfl⟩ := hr
    exact op_un h hd hdn ho hu hz
  · rename_i T' T x ho
    simp only [run_bind_some] at hr
    obtain ⟨u, hu, hr⟩ := hr
    split at hr
    · rename_i k' n k'' k ht' ht
      simp at hr; subst hr
      exact op_conv hT h hd hdn ho hu ht (hT _ _ ht').under
    · simp at hr
  · rename_i T x ho
    simp only [run_bind_some] at hr
    obtain ⟨v, hv, hr⟩ := hr
    exact op_arrayPtr hT h hd hdn ho hv hr
  · rename_i T x lo hi ho
    simp only [run_bind_some] at hr
    obtain ⟨v, hv, hr⟩ := hr
    exact op_slice hT h hd hdn ho hv hr
  · rename_i T x lo hi mx ho
    simp only [run_bind_some, run_guard_some, Bool.and_eq_true, beq_iff_eq] at hr
    obtain ⟨v, hv, p, hp, q, hq, r, hr', ⟨⟨rfl, rfl⟩, rfl⟩, hr⟩ := hr
    exact op_slice0 hT h hd hdn ho hv hp hq hr' hr
  · rename_i T x i ho
    simp only [run_bind_some] at hr
    obtain ⟨v, hv, hr⟩ := hr
    exact op_fieldAddr hT h hd hdn ho hv hr
  · rename_i T x i ho
    simp only [run_bind_some] at hr
    obtain ⟨v, hv, vi, hvi, n, hn, hr⟩ := hr
    exact op_indexAddr hT h hd hdn ho hv hvi hn hr
  · rename_i T x i ho
    simp only [run_bind_some, run_ret, Option.some.injEq] at hr
    obtain ⟨v, hv, vi, hvi, n, hn, u, hu, rfl⟩ := hr
    exact op_index hT h hd hdn ho hv hvi hn hu
  · rename_i x i ho
    simp only [run_bind_some] at hr
    obtain ⟨v, hv, hr⟩ := hr
    split at hr
    · rename_i vs
      split at hr
      · rename_i u hu
        simp at hr; subst hr
        exact op_extract h hd hdn ho hv hu
      · simp at hr
    · simp at hr
  · rename_i cl ho
    split at hr
    · rename_i f hc
      split at hr
      · rename_i q hq
        simp only [run_bind_some] at hr
        obtain ⟨vs, hv, hr⟩ := hr
        exact hE.call Mu nt S c a o d cl f q vs δ hMu h hd hdn ho hc hq hv hr
      · simp at hr
    · rename_i b hc
      simp only [run_bind_some] at hr
      obtain ⟨vs, hv, hr⟩ := hr
      exact op_builtin hT hMu h hd hdn ho hc hv hr
    · simp at hr
  · simp at hr

theorem cop_sound (hE : EnvOk P E) (hMu : ∀ b, c.w.heap.size ≤ b → Mu b) (h : Rel Mu nt S c a) (hdn : ∀ t, o.dst = some t → t < nt) (hr : (cop E o).run S = some δ) : OpOk P Mu nt S c a o δ := by
  have hT := hE.tab
  unfold cop at hr
  split at hr
  · rename_i x ho
    simp only [run_bind_some, run_ret, Option.some.injEq] at hr
    obtain ⟨v, hv, rfl⟩ := hr
    exact op_move h hdn (.inl ho) hv
  · rename_i x ho
    simp only [run_bind_some, run_ret, Option.some.injEq] at hr
    obtain ⟨v, hv, rfl⟩ := hr
    exact op_move h hdn (.inr ho) hv
  · rename_i T p x ho
    simp only [run_bind_some] at hr
    obtain ⟨va, hva, vx, hvx, hr⟩ := hr
    split at hr
    · rename_i m q t ht hd
      obtain ⟨c', h1, h2, h3⟩ := storeV_sound hT h (ev_sound h hva).ptr (ev_sound h hvx) ht hr
      intro K Q hK
      have hx : (execOp a.eval o).run P c.w = .ok .skip c'.w := by
        simp only [execOp, ho, Sem.run_bind, h1, Result.andThen_ok, Sem.run_pure]
      unfold Oper.wp
      rw [hx]
      have hp : a.put o.dst undef = a := by rw [hd]; rfl
      show K (a.put o.dst undef) c'.w
      rw [hp]
      exact hK c' a h2 h3
    · simp at hr
  · rename_i x ho
    simp only [run_bind_some] at hr
    obtain ⟨v, hv, hr⟩ := hr
    split at hr
    · simp at hr; subst hr
      exact op_nilCheck h hdn ho hv (.inl ⟨_, _, rfl⟩)
    · simp at hr; subst hr
      exact op_nilCheck h hdn ho hv (.inr ⟨_, _, _, rfl⟩)
    · simp at hr
  · split at hr
    · simp at hr
    · rename_i d hd
      exact copV_sound hE hMu h hd (hdn d hd) hr

end
end Go.Eng
