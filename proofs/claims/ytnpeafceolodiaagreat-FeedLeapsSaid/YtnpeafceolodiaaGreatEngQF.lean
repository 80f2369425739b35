/- The engine, part QF: reading after freezing. -/
import Derived.Test.YtnpeafceolodiaaGreatEngQ
namespace Go.Eng
open Go.RowKit

section
variable {P : Program} {E : Env} {Mu : Nat → Prop} {nt : Nat} {S : St} {c c' : Cx} {a : Act}

theorem takeSl_frz {bor : List (Nat × V)} (hb : Bor S bor) {md : Md} {t : Ty} {v : V} {k : Tk (List t.den)} (hr : (takeSl md t v).run S = some k) (hk : ∀ q ∈ k.bor, q ∈ bor) (hown : ∀ m ∈ k.own, ∀ u, (m, u) ∉ bor) (hvar : k.vars = []) :
    (takeSl md t v).run (S.apply (frzs bor)) = some { k with bor := [] } := by
  cases v <;> simp only [takeSl, run_get, run_ret, run_fail, reduceCtorEq, Option.some.injEq] at hr ⊢
  case nils => subst hr; rfl
  case sl f t' l =>
    split at hr
    · rename_i e; subst e
      cases md <;> simp only [run_ret, run_fail, reduceCtorEq, Option.some.injEq, run_guard_some, dif_pos] at hr ⊢
      · subst hr; rfl
      · obtain ⟨hf, rfl⟩ := hr; exact ⟨hf, rfl⟩
    · simp at hr
  case own m =>
    cases hS : S (.obj m) <;> rw [hS] at hr <;> simp only [run_fail, reduceCtorEq] at hr
    case arrc f t' l =>
      split at hr
      · rename_i e; subst e
        cases md <;> simp only [run_ret, reduceCtorEq, Option.some.injEq, run_guard_some, castL_rfl] at hr
        · subst hr
          have := frzs_at hb (hk _ (List.mem_singleton.2 rfl))
          simp only at this
          rw [this]
          simp [castL_rfl]
        · obtain ⟨hf, rfl⟩ := hr
          have := frzs_at hb (hk _ (List.mem_singleton.2 rfl))
          simp only at this
          rw [this]
          simp [castL_rfl, run_guard_some, hf]
        · obtain ⟨hf, rfl⟩ := hr
          rcases frzs_obj S bor m hb with ⟨u, hm, _⟩ | ⟨_, hh⟩
          · exact (hown m (by simp) u hm).elim
          · rw [hh, hS]; simp [castL_rfl, run_guard_some, hf]
        · subst hr
          rcases frzs_obj S bor m hb with ⟨u, hm, _⟩ | ⟨_, hh⟩
          · exact (hown m (by simp) u hm).elim
          · rw [hh, hS]; simp [castL_rfl]
      · simp at hr
    case frzc f t' l =>
      have hS1 : S.apply (frzs bor) (.obj m) = .frzc f t' l := by
        rcases frzs_obj S bor m hb with ⟨u, hm, _⟩ | ⟨_, hh⟩
        · obtain ⟨_, _, _, hh, _⟩ := hb _ hm
          simp only at hh
          rw [hS] at hh; simp at hh
        · rw [hh, hS]
      rw [hS1]
      split at hr
      · rename_i e; subst e
        cases md <;> simp only [run_ret, run_fail, reduceCtorEq, Option.some.injEq, run_guard_some, dif_pos] at hr ⊢
        · subst hr; rfl
        · obtain ⟨hf, rfl⟩ := hr; exact ⟨hf, rfl⟩
      · simp at hr
  case vsl m p lo hi =>
    cases md <;> cases t <;> simp only [run_fail, reduceCtorEq, run_get] at hr
    cases hS : S (.obj m) <;> rw [hS] at hr <;> simp only [run_fail, reduceCtorEq, run_bind_some] at hr
    obtain ⟨u, _, hr⟩ := hr
    cases u <;> simp only [run_fail, reduceCtorEq] at hr
    split at hr
    · simp only [run_ret, Option.some.injEq] at hr; subst hr; simp at hvar
    · simp at hr

theorem takeV_frz {bor : List (Nat × V)} (hb : Bor S bor) : ∀ {t : Ty} {v : V} {k : Tk t.den}, (takeV t v).run S = some k → (∀ q ∈ k.bor, q ∈ bor) → (∀ m ∈ k.own, ∀ u, (m, u) ∉ bor) → k.vars = [] →
    (takeV t v).run (S.apply (frzs bor)) = some { k with bor := [] }
  | .unit, v, k, hr, hk, ho, hv => by obtain ⟨rfl, rfl⟩ := takeUnit_some hr; rfl
  | .int kk, v, k, hr, hk, ho, hv => by
      obtain ⟨x, rfl, rfl⟩ := takeInt_some hr
      show (takeInt kk (.int kk x)).run _ = _
      simp [takeInt]
      rfl
  | .bool, v, k, hr, hk, ho, hv => by obtain ⟨x, rfl, rfl⟩ := takeBool_some hr; rfl
  | .str, v, k, hr, hk, ho, hv => by obtain ⟨x, rfl, rfl⟩ := takeStr_some hr; rfl
  | .arr n kk, v, k, hr, hk, ho, hv => by
      obtain ⟨x, rfl, rfl⟩ := takeArr_some hr
      show (takeArr n kk (.arr n kk x)).run _ = _
      simp [takeArr]
      rfl
  | .sl md t, v, k, hr, hk, ho, hv => takeSl_frz hb hr hk ho hv
  | .prod a b, v, k, hr, hk, ho, hv => by
      obtain ⟨u, vs, x, y, rfl, h1, h2, rfl⟩ := takeProd_some hr
      simp at hv
      have e1 := takeV_frz hb h1 (fun q hq => hk q (by simp [hq])) (fun m hm => ho m (by simp [hm])) hv.1
      have e2 := takeV_frz hb h2 (fun q hq => hk q (by simp [hq])) (fun m hm => ho m (by simp [hm])) hv.2
      show ((takeV a u).bind fun x => (takeV b (.node vs)).bind fun y => Rd.ret _).run _ = _
      rw [run_bind, e1]
      simp only [Option.bind_some, run_bind, e2, run_ret, List.append_nil]
  | .opq, v, k, hr, _, _, _ => nomatch k.x
  | .ifc, v, k, hr, _, _, _ => nomatch k.x

/-- No row that is borrowed holds an object. -/
theorem frzs_var {bor : List (Nat × V)} (hb : Bor S bor) {m : Nat} {t : Ty} {v : V} (h : S (.obj m) = .obj t v) : S.apply (frzs bor) (.obj m) = .obj t v := by
  rcases frzs_obj S bor m hb with ⟨u, hm, _⟩ | ⟨_, hh⟩
  · obtain ⟨_, _, _, hh, _⟩ := hb _ hm
    simp only at hh
    rw [h] at hh; simp at hh
  · rw [hh, h]

theorem row_frz {bor : List (Nat × V)} (hb : Bor S bor) {m : Nat} (hm : ∀ u, (m, u) ∉ bor) : S.apply (frzs bor) (.obj m) = S (.obj m) := by
  rcases frzs_obj S bor m hb with ⟨u, h, _⟩ | ⟨_, hh⟩
  · exact (hm u h).elim
  · exact hh

theorem readS_bor : ∀ (ss : List Slot) {y : Tk (DS ss)}, (readS ss).run S = some y → Bor S y.bor
  | [], y, hr => by simp [readS] at hr; subst hr; exact .nil
  | .tmp i t :: ss, y, hr => by
      simp only [readS, run_get] at hr
      obtain ⟨x, h1, hr⟩ := run_bind_some.1 hr
      obtain ⟨z, h2, hr⟩ := run_bind_some.1 hr
      obtain rfl : x.and z = y := Option.some.inj hr
      exact (takeV_bor h1).append (readS_bor ss h2)
  | .ept i f t :: ss, y, hr => by
      simp only [readS, run_get] at hr
      cases he : asEpt f t (S (.tmp i)) with
      | none => simp [he] at hr
      | some x =>
        simp only [he] at hr
        obtain ⟨z, h2, hr⟩ := run_bind_some.1 hr
        obtain rfl : Tk.and ⟨x, [], [], [], true⟩ z = y := Option.some.inj hr
        exact Bor.append .nil (readS_bor ss h2)
  | .fix i m p :: ss, y, hr => by
      simp only [readS, run_get] at hr
      exact readS_bor ss (run_guard_some.1 hr).2
  | .fixo i m :: ss, y, hr => by
      simp only [readS, run_get] at hr
      exact readS_bor ss (run_guard_some.1 hr).2
  | .obj m t :: ss, y, hr => by
      simp only [readS, run_get] at hr
      obtain ⟨x, h1, hr⟩ := run_bind_some.1 hr
      obtain ⟨z, h2, hr⟩ := run_bind_some.1 hr
      obtain rfl : x.and z = y := Option.some.inj hr
      obtain ⟨u, hS, h1⟩ := takeObj_some h1
      exact (takeV_bor h1).append (readS_bor ss h2)
  | .row m t :: ss, y, hr => by
      simp only [readS, run_get] at hr
      cases he : takeRow t (S (.obj m)) with
      | none => simp [he] at hr
      | some x =>
        simp only [he] at hr
        obtain ⟨z, h2, hr⟩ := run_bind_some.1 hr
        obtain rfl : Tk.and ⟨x, [], [], [], true⟩ z = y := Option.some.inj hr
        exact Bor.append .nil (readS_bor ss h2)

theorem readS_frz {bor : List (Nat × V)} (hb : Bor S bor) : ∀ (ss : List Slot) {y : Tk (DS ss)}, (readS ss).run S = some y → (∀ q ∈ y.bor, q ∈ bor) → (∀ m ∈ y.own, ∀ u, (m, u) ∉ bor) → (∀ m ∈ keepS ss, ∀ u, (m, u) ∉ bor) → y.vars = [] →
    ∃ y', (readS ss).run (S.apply (frzs bor)) = some y' ∧ y'.x = y.x ∧ y'.own = y.own ∧ y'.bor = [] ∧ y'.vars = []
  | [], y, hr, _, _, _, _ => by simp [readS] at hr; subst hr; exact ⟨_, rfl, rfl, rfl, rfl, rfl⟩
  | .tmp i t :: ss, y, hr, hk, ho, hp, hv => by
      simp only [readS, run_get] at hr
      obtain ⟨x, h1, hr⟩ := run_bind_some.1 hr
      obtain ⟨z, h2, hr⟩ := run_bind_some.1 hr
      obtain rfl : x.and z = y := Option.some.inj hr
      simp [Tk.and] at hv
      have e1 := takeV_frz hb h1 (fun q hq => hk q (by simp [Tk.and, hq])) (fun m hm => ho m (by simp [Tk.and, hm])) hv.1
      obtain ⟨z', e2, q1, q2, q3, q4⟩ := readS_frz hb ss h2 (fun q hq => hk q (by simp [Tk.and, hq])) (fun m hm => ho m (by simp [Tk.and, hm])) hp hv.2
      refine ⟨Tk.and { x with bor := [] } z', ?_, by show (x.x, z'.x) = (x.x, z.x); rw [q1], by simp [Tk.and, q2], by simp [Tk.and, q3], by simp [Tk.and, q4, hv.1]⟩
      simp only [readS, run_get, frzs_tmp]
      exact run_bind_some.2 ⟨{ x with bor := [] }, e1, run_bind_some.2 ⟨z', e2, rfl⟩⟩
  | .ept i f t :: ss, y, hr, hk, ho, hp, hv => by
      simp only [readS, run_get] at hr
      cases he : asEpt f t (S (.tmp i)) with
      | none => simp [he] at hr
      | some x =>
        simp only [he] at hr
        obtain ⟨z, h2, hr⟩ := run_bind_some.1 hr
        obtain rfl : Tk.and ⟨x, [], [], [], true⟩ z = y := Option.some.inj hr
        simp [Tk.and] at hv
        obtain ⟨z', e2, q1, q2, q3, q4⟩ := readS_frz hb ss h2 (fun q hq => hk q (by simp [Tk.and, hq])) (fun m hm => ho m (by simp [Tk.and, hm])) hp hv
        refine ⟨Tk.and ⟨x, [], [], [], true⟩ z', ?_, by show (x, z'.x) = (x, z.x); rw [q1], by simp [Tk.and, q2], by simp [Tk.and, q3], by simp [Tk.and, q4]⟩
        simp only [readS, run_get, frzs_tmp, he]
        exact run_bind_some.2 ⟨z', e2, rfl⟩
  | .fix i m p :: ss, y, hr, hk, ho, hp, hv => by
      simp only [readS, run_get] at hr
      obtain ⟨he, hr⟩ := run_guard_some.1 hr
      obtain ⟨z', e2, q1, q2, q3, q4⟩ := readS_frz hb ss hr hk ho hp hv
      refine ⟨z', ?_, q1, q2, q3, q4⟩
      simp only [readS, run_get, frzs_tmp]
      exact run_guard_some.2 ⟨he, e2⟩
  | .fixo i m :: ss, y, hr, hk, ho, hp, hv => by
      simp only [readS, run_get] at hr
      obtain ⟨he, hr⟩ := run_guard_some.1 hr
      obtain ⟨z', e2, q1, q2, q3, q4⟩ := readS_frz hb ss hr hk ho hp hv
      refine ⟨z', ?_, q1, q2, q3, q4⟩
      simp only [readS, run_get, frzs_tmp]
      exact run_guard_some.2 ⟨he, e2⟩
  | .obj m t :: ss, y, hr, hk, ho, hp, hv => by
      simp only [readS, run_get] at hr
      obtain ⟨x, h1, hr⟩ := run_bind_some.1 hr
      obtain ⟨z, h2, hr⟩ := run_bind_some.1 hr
      obtain rfl : x.and z = y := Option.some.inj hr
      simp [Tk.and] at hv
      obtain ⟨u, hS, h1⟩ := takeObj_some h1
      have e1 := takeV_frz hb h1 (fun q hq => hk q (by simp [Tk.and, hq])) (fun m hm => ho m (by simp [Tk.and, hm])) hv.1
      obtain ⟨z', e2, q1, q2, q3, q4⟩ := readS_frz hb ss h2 (fun q hq => hk q (by simp [Tk.and, hq])) (fun m hm => ho m (by simp [Tk.and, hm])) (fun m hm => hp m (by simp [keepS, hm])) hv.2
      refine ⟨Tk.and { x with bor := [] } z', ?_, by show (x.x, z'.x) = (x.x, z.x); rw [q1], by simp [Tk.and, q2], by simp [Tk.and, q3], by simp [Tk.and, q4, hv.1]⟩
      simp only [readS, run_get, frzs_var hb hS]
      refine run_bind_some.2 ⟨{ x with bor := [] }, ?_, run_bind_some.2 ⟨z', e2, rfl⟩⟩
      simp only [takeObj, if_true]
      exact e1
  | .row m t :: ss, y, hr, hk, ho, hp, hv => by
      simp only [readS, run_get] at hr
      cases he : takeRow t (S (.obj m)) with
      | none => simp [he] at hr
      | some x =>
        simp only [he] at hr
        obtain ⟨z, h2, hr⟩ := run_bind_some.1 hr
        obtain rfl : Tk.and ⟨x, [], [], [], true⟩ z = y := Option.some.inj hr
        simp [Tk.and] at hv
        obtain ⟨z', e2, q1, q2, q3, q4⟩ := readS_frz hb ss h2 (fun q hq => hk q (by simp [Tk.and, hq])) (fun m hm => ho m (by simp [Tk.and, hm])) (fun m hm => hp m (by simp [keepS, hm])) hv
        refine ⟨Tk.and ⟨x, [], [], [], true⟩ z', ?_, by show (x, z'.x) = (x, z.x); rw [q1], by simp [Tk.and, q2], by simp [Tk.and, q3], by simp [Tk.and, q4]⟩
        simp only [readS, run_get, row_frz hb (hp m (by simp [keepS])), he]
        exact run_bind_some.2 ⟨z', e2, rfl⟩

end
end Go.Eng
