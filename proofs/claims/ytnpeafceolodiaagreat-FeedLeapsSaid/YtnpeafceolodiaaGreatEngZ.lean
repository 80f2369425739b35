/- The engine, part Z: calls. -/
import Derived.Test.YtnpeafceolodiaaGreatEngY
namespace Go.Eng
open Go.RowKit

section
variable {P : Program} {E : Env} {Mu : Nat → Prop} {nt : Nat} {S : St} {c c' c'' : Cx} {a : Act} {o : Oper} {g : Bool}

theorem CallF.wp {cl : Call} {f : FuncId} (ho : o.op = .call cl) (hc : cl.callee = .value (.func f)) {w : World} {R : Value → World → Prop} (h : CallF P f (cl.args.map a.eval) w R) {K : Act → World → Prop} {Q : Exit → Act → World → Prop}
    (hK : ∀ v w', R v w' → K (a.put o.dst v) w') : o.wp P a w K Q := by
  have hx : (execOp a.eval o).run P w = (callFunc f (cl.args.map a.eval)).run P w := by
    simp [execOp, ho, resolve, hc, Deferred.ofValue, Act.eval, invoke]
  unfold Oper.wp
  rw [hx]
  unfold CallF at h
  split at h
  · rename_i v w' e
    rw [e]; exact hK v w' h
  · rename_i f' args' w' e
    rw [e]
    refine Calls.mono h fun en w'' hR => ?_
    cases en with
    | returned v => exact hK v w'' hR
    | panicked ch => exact hR.elim
    | outgrown => exact hR.elim
  · exact h.elim

theorem run_newNs {α : Type} {k : Rd α} {z : α} : ∀ {δ : List (Loc × V)}, (newNs δ k).run S = some z → (∀ q ∈ δ, ∃ m, q.1 = .obj m ∧ S (.obj m) = .undef) ∧ k.run S = some z
  | [], h => ⟨by simp, h⟩
  | (.tmp _, _) :: δ, h => by simp [newNs] at h
  | (.obj m, v) :: δ, h => by
      simp only [newNs, run_newN_some] at h
      obtain ⟨h1, h2⟩ := run_newNs h.2
      exact ⟨fun q hq => (List.mem_cons.1 hq).elim (fun e => ⟨m, by rw [e], h.1⟩) (h1 q), h2⟩

theorem apply_objs : ∀ (d : List (Loc × V)) (S : St) (t : Nat), (∀ q ∈ d, ∃ m, q.1 = .obj m) → S.apply d (.tmp t) = S (.tmp t)
  | [], _, _, _ => rfl
  | (k, v) :: d, S, t, h => by
      obtain ⟨m, e⟩ := h (k, v) (by simp)
      simp only at e
      subst e
      rw [apply_cons, St.set_other _ _ _ _ (by simp)]
      exact apply_objs d S t fun q hq => h q (by simp [hq])

theorem apply_nodup : ∀ (d : List (Loc × V)) (S : St) (l : Loc) (v : V), (d.map (·.1)).Nodup → (l, v) ∈ d → S.apply d l = v
  | [], _, _, _, _, h => by simp at h
  | (k, u) :: d, S, l, v, hn, h => by
      rw [apply_cons]
      simp only [List.map_cons] at hn
      obtain ⟨h1, h2⟩ := List.nodup_cons.1 hn
      rcases List.mem_cons.1 h with e | h'
      · cases e; exact St.set_same _ _ _
      · have hne : l ≠ k := fun e => h1 (e ▸ List.mem_map.2 ⟨(l, v), h', rfl⟩)
        rw [St.set_other _ _ _ _ hne]
        exact apply_nodup d S l v h2 h'

theorem parsOf_nodup : ∀ (ks : List PK) (i : Nat), (parsOf ks i).Nodup
  | [], _ => List.nodup_nil
  | .val _ :: ks, i => parsOf_nodup ks (i + 1)
  | .rptr _ :: ks, i => parsOf_nodup ks (i + 1)
  | .ptr _ :: ks, i => List.nodup_cons.2 ⟨fun h => by have := parsOf_mem _ _ _ h; omega, parsOf_nodup ks (i + 1)⟩
  | .mut _ :: ks, i => List.nodup_cons.2 ⟨fun h => by have := parsOf_mem _ _ _ h; omega, parsOf_nodup ks (i + 1)⟩

def frzRef : Ref → Ref
  | .arr b t len cap => .frz b t len cap
  | r => r

/-- What names stand for when a call is over. -/
def backRef (c c' : Cx) (own fz : List Nat) (n k m : Nat) : Ref :=
  if m ∈ own then .dead else if n ≤ m ∧ m < n + k then c'.ρ m else if m ∈ fz then frzRef (c.ρ m) else c.ρ m

def backCx (c c' : Cx) (g : Bool) (L own fz : List Nat) (n k : Nat) : Cx :=
  { ρ := backRef c c' own fz n k, R := fun b o => c'.R b o ∧ (g = true ∨ ¬ lent c L b), w := c'.w, N := c.N }

/-- A row that stays as it is, whose cells will stay. -/
theorem ObjR.frozen {f : Bool} {t : Ty} {l : List t.den} {m : Nat} (h : ObjR c (.arrc f t l) (c.ρ m)) (hl : Later c c'') (hR : ∀ b, (c.ρ m).blk = some b → ∀ o, c''.R b o) (hw : ∀ b, (c.ρ m).blk = some b → c''.w.heap[b]? = c.w.heap[b]?) :
    ObjR c'' (.frzc f t l) (frzRef (c.ρ m)) := by
  cases hρ : c.ρ m <;> rw [hρ] at h hR hw <;> try exact h.elim
  rename_i b t' len cap
  cases b with
  | none =>
    obtain ⟨rfl, q1, q2, rfl, rfl, rfl⟩ := h
    refine ⟨rfl, q1, q2, rfl, ?_⟩
    rintro x ⟨ad, rfl⟩
    exact ⟨Nat.zero_le _, ad, 0, rfl, fun hne => (hne rfl).elim⟩
  | some b =>
    obtain ⟨rfl, q1, q2, q3, q4, q5, q6, cells, e, q7, q8, q9⟩ := h
    refine ⟨rfl, q1, q2, q3, ?_⟩
    rintro x rfl
    subst q3
    refine ⟨Nat.le_trans q4 q5, some ⟨b, 0, none⟩, cap - l.length, ?_, fun _ => ⟨b, 0, _, rfl, q9.mono fun x cs hh => Rep.later (hl.moref f) (hl.memf f) _ _ _ hh, fun j u hj => ⟨⟨hR b rfl _, fun e => by rw [hl.base]; exact q6 e⟩, ?_⟩⟩⟩
    · show [Value.slice _ l.length cap] = _
      congr 2; omega
    · rw [List.getElem?_take] at hj
      split at hj
      · rw [cell_row (by rw [hw b rfl]; exact q7)]; simpa using hj
      · simp at hj

theorem putO_end : ∀ (ks : List PK) (o : DO ks) (pls : List (Nat × Ty × Bool)) (i n : Nat) {o1 o2 : List (Loc × V)}, PlOk S ks pls → Eng.putO ks o pls n = some (o1, o2) → o2 = (endO ks o i n).2
  | [], o, pls, i, n, o1, o2, hpl, hp => by
      simp only [PlOk] at hpl
      subst hpl
      simp [Eng.putO] at hp
      exact hp.2
  | .val _ :: ks, o, pls, i, n, o1, o2, hpl, hp => by
      have hp : Eng.putO ks o pls n = some (o1, o2) := by
        cases pls with
        | nil => exact hp
        | cons p ps => obtain ⟨a, b, e⟩ := p; exact hp
      exact putO_end ks o pls (i + 1) n hpl hp
  | .rptr _ :: ks, o, pls, i, n, o1, o2, hpl, hp => by
      have hp : Eng.putO ks o pls n = some (o1, o2) := by
        cases pls with
        | nil => exact hp
        | cons p ps => obtain ⟨a, b, e⟩ := p; exact hp
      exact putO_end ks o pls (i + 1) n hpl hp
  | .ptr t :: ks, o, pls, i, n, o1, o2, hpl, hp => by
      obtain ⟨⟨m, t', f⟩, ps, rfl, ht, _, hpl⟩ := hpl
      simp only [Eng.putO] at hp
      split at hp
      · cases hq : Eng.putO ks o.2 ps (Eng.putV t o.1 n).2.2 with
        | none => simp [hq] at hp
        | some q =>
          simp [hq] at hp
          obtain ⟨_, rfl⟩ := hp
          simp only [endO]
          rw [putO_end ks o.2 ps (i + 1) _ hpl hq]
      · simp at hp
  | .mut t :: ks, o, pls, i, n, o1, o2, hpl, hp => by
      obtain ⟨⟨m, t', f⟩, ps, rfl, _, hpl⟩ := hpl
      simp only [Eng.putO] at hp
      cases hq : Eng.putO ks o.2 ps n with
      | none => simp [hq] at hp
      | some q =>
        simp [hq] at hp
        obtain ⟨_, rfl⟩ := hp
        simp only [endO]
        exact putO_end ks o.2 ps (i + 1) n hpl hq

theorem takeSl_own {md : Md} {t : Ty} {v : V} {k : Tk (List t.den)} (hr : (takeSl md t v).run S = some k) : ∀ m ∈ k.own, ∃ f t l, S (.obj m) = .arrc f t l := by
  intro m0 hm
  cases v <;> simp only [takeSl, run_get, run_ret, run_fail, reduceCtorEq, Option.some.injEq] at hr
  case nils => subst hr; simp at hm
  case sl f t' l =>
    split at hr
    · rename_i e; subst e
      cases md <;> simp only [run_ret, run_fail, reduceCtorEq, Option.some.injEq, run_guard_some] at hr
      · subst hr; simp at hm
      · obtain ⟨_, rfl⟩ := hr; simp at hm
    · simp at hr
  case own m =>
    cases hS : S (.obj m) <;> rw [hS] at hr <;> simp only [run_fail, reduceCtorEq] at hr
    case arrc f t' l =>
      split at hr
      · rename_i e; subst e
        cases md <;> simp only [run_ret, reduceCtorEq, Option.some.injEq, run_guard_some] at hr
        · subst hr; simp at hm
        · obtain ⟨_, rfl⟩ := hr; simp at hm
        · obtain ⟨_, rfl⟩ := hr; simp at hm; subst hm; exact ⟨_, _, _, hS⟩
        · subst hr; simp at hm; subst hm; exact ⟨_, _, _, hS⟩
      · simp at hr
    case frzc f t' l =>
      split at hr
      · rename_i e; subst e
        cases md <;> simp only [run_ret, run_fail, reduceCtorEq, Option.some.injEq, run_guard_some] at hr
        · subst hr; simp at hm
        · obtain ⟨_, rfl⟩ := hr; simp at hm
      · simp at hr
  case vsl m p lo hi =>
    cases md <;> cases t <;> simp only [run_fail, reduceCtorEq, run_get] at hr
    cases hS : S (.obj m) <;> rw [hS] at hr <;> simp only [run_fail, reduceCtorEq, run_bind_some] at hr
    obtain ⟨u, _, hr⟩ := hr
    cases u <;> simp only [run_fail, reduceCtorEq] at hr
    split at hr
    · simp only [run_ret, Option.some.injEq] at hr; subst hr; simp at hm
    · simp at hr

theorem takeV_own : ∀ {t : Ty} {v : V} {k : Tk t.den}, (takeV t v).run S = some k → ∀ m ∈ k.own, ∃ f t l, S (.obj m) = .arrc f t l
  | .unit, v, k, hr => by obtain ⟨rfl, rfl⟩ := takeUnit_some hr; simp
  | .int _, v, k, hr => by obtain ⟨_, rfl, rfl⟩ := takeInt_some hr; simp
  | .bool, v, k, hr => by obtain ⟨_, rfl, rfl⟩ := takeBool_some hr; simp
  | .str, v, k, hr => by obtain ⟨_, rfl, rfl⟩ := takeStr_some hr; simp
  | .arr _ _, v, k, hr => by obtain ⟨_, rfl, rfl⟩ := takeArr_some hr; simp
  | .sl md t, v, k, hr => takeSl_own hr
  | .prod a b, v, k, hr => by
      obtain ⟨u, vs, x, y, rfl, h1, h2, rfl⟩ := takeProd_some hr
      intro m hm
      rcases List.mem_append.1 hm with hm | hm
      · exact takeV_own h1 m hm
      · exact takeV_own h2 m hm
  | .opq, v, k, hr => nomatch k.x
  | .ifc, v, k, hr => nomatch k.x

theorem takeP_own : ∀ (ks : List PK) (vs : List V) {y : Tp (DP ks)}, (takeP ks vs).run S = some y → ∀ m ∈ y.own, ∃ f t l, S (.obj m) = .arrc f t l
  | [], [], y, hr => by simp [takeP] at hr; subst hr; simp
  | [], _ :: _, _, hr => by simp [takeP] at hr
  | .val _ :: _, [], _, hr => by simp [takeP] at hr
  | .rptr _ :: _, [], _, hr => by simp [takeP] at hr
  | .ptr _ :: _, [], _, hr => by simp [takeP] at hr
  | .mut _ :: _, [], _, hr => by simp [takeP] at hr
  | .val t :: ks, v :: vs, y, hr => by
      simp only [takeP, run_bind_some] at hr
      obtain ⟨k, h1, hr⟩ := hr
      obtain ⟨_, hr⟩ := run_smallVars hr
      obtain ⟨z, h2, hr⟩ := run_bind_some.1 hr
      split at hr
      · simp only [run_ret, Option.some.injEq] at hr
        subst hr
        exact takeP_own ks vs h2
      · simp at hr
  | .rptr t :: ks, v :: vs, y, hr => by
      cases v <;> simp only [takeP, run_fail, reduceCtorEq] at hr
      case eptr f t' e =>
        split at hr
        · obtain ⟨z, h2, hr⟩ := run_bind_some.1 hr
          simp only [run_ret, Option.some.injEq] at hr
          subst hr
          exact takeP_own ks vs h2
        · simp at hr
      case ptr m p =>
        obtain ⟨⟨u, w⟩, h0, hr⟩ := run_bind_some.1 hr
        simp only at hr
        split at hr
        · obtain ⟨k, h1, hr⟩ := run_bind_some.1 hr
          obtain ⟨_, hr⟩ := run_smallVars hr
          obtain ⟨z, h2, hr⟩ := run_bind_some.1 hr
          split at hr
          · simp only [run_ret, Option.some.injEq] at hr
            subst hr
            exact takeP_own ks vs h2
          · simp at hr
        · simp at hr
  | .ptr t :: ks, v :: vs, y, hr => by
      cases v <;> try (simp [takeP] at hr; done)
      rename_i m p
      cases p <;> try (simp [takeP] at hr; done)
      simp only [takeP, run_get] at hr
      cases hS : S (.obj m) <;> rw [hS] at hr <;> simp only [run_fail, reduceCtorEq] at hr
      split at hr
      · obtain ⟨k, h1, hr⟩ := run_bind_some.1 hr
        obtain ⟨z, h2, hr⟩ := run_bind_some.1 hr
        split at hr
        · simp only [run_ret, Option.some.injEq] at hr
          subst hr
          intro m hm
          rcases List.mem_append.1 hm with hm | hm
          · exact takeV_own h1 m hm
          · exact takeP_own ks vs h2 m hm
        · simp at hr
      · simp at hr
  | .mut t :: ks, v :: vs, y, hr => by
      cases v <;> try (simp [takeP] at hr; done)
      rename_i m
      simp only [takeP, run_get] at hr
      cases hS : S (.obj m) <;> rw [hS] at hr <;> simp only [run_fail, reduceCtorEq] at hr
      split at hr
      · obtain ⟨z, h2, hr⟩ := run_bind_some.1 hr
        simp only [run_ret, Option.some.injEq] at hr
        subst hr
        exact takeP_own ks vs h2
      · simp at hr

theorem PlOk.def : ∀ {ks : List PK} {pls : List (Nat × Ty × Bool)}, PlOk S ks pls → ∀ p ∈ pls, (∃ t v, S (.obj p.1) = .obj t v) ∨ ∃ f t l, S (.obj p.1) = .arrc f t l
  | [], pls, h, p, hp => by simp only [PlOk] at h; subst h; simp at hp
  | .val _ :: ks, pls, h, p, hp => PlOk.def (ks := ks) h p hp
  | .rptr _ :: ks, pls, h, p, hp => PlOk.def (ks := ks) h p hp
  | .ptr t :: ks, pls, h, p, hp => by
      obtain ⟨q, ps, rfl, _, ⟨v, hS⟩, h⟩ := h
      rcases List.mem_cons.1 hp with rfl | hp
      · exact .inl ⟨_, _, hS⟩
      · exact PlOk.def (ks := ks) h p hp
  | .mut t :: ks, pls, h, p, hp => by
      obtain ⟨q, ps, rfl, ⟨l, hS⟩, h⟩ := h
      rcases List.mem_cons.1 hp with rfl | hp
      · exact .inr ⟨_, _, _, hS⟩
      · exact PlOk.def (ks := ks) h p hp

theorem TR1_tr {v : V} {x : Value} (ht : ∀ cs, CR c v cs → CR c' v cs) (h : TR1 c v x) : TR1 c' v x := by
  cases v
  case node vs =>
    obtain ⟨cs, e, h⟩ := h
    refine ⟨cs, e, ?_⟩
    have := ht cs.toList (by simpa only [CR] using h)
    simpa only [CR] using this
  case arr n k l =>
    obtain ⟨cs, e, h⟩ := h
    exact ⟨cs, e, ht _ h⟩
  all_goals exact ht [x] h

theorem TRt_tr : ∀ {us : List V} {xs : List Value}, (∀ v ∈ us, ∀ cs, CR c v cs → CR c' v cs) → TRt c us xs → TRt c' us xs
  | [], [], _, _ => trivial
  | v :: us, x :: xs, ht, h => ⟨h.1.imp id fun h => TR1_tr (ht v (by simp)) h, TRt_tr (fun v hv => ht v (by simp [hv])) h.2⟩
  | [], _ :: _, _, h => h.elim
  | _ :: _, [], _, h => h.elim

theorem TR_one_tr {us : List V} {x : Value} (hs : ∀ v ∈ us, okRes v) (ht : ∀ v ∈ us, ∀ cs, CR c v cs → CR c' v cs) (h : TR c (oneV us) x) : TR c' (oneV us) x := by
  match us, h with
  | [], h => obtain ⟨xs, e, h⟩ := h; exact ⟨xs, e, TRt_tr ht h⟩
  | [v], h =>
    rcases hs v (by simp) with rfl | hv
    · trivial
    · exact (TR1_tr (ht v (by simp)) (h.to1 hv)).to hv
  | v :: v' :: vs, h => obtain ⟨xs, e, h⟩ := h; exact ⟨xs, e, TRt_tr ht h⟩

theorem run_putRK {α : Type} {z : α} : ∀ {rs : List RK} {r : DR rs} {n : Nat} {k : List V → List (Loc × V) → Rd α}, (putRK rs r n k).run S = some z → ∃ us d, putR rs r n = some (us, d) ∧ (k us d).run S = some z
  | [], r, n, k, h => ⟨[], [], rfl, h⟩
  | .val t :: rs, r, n, k, h => by
      obtain ⟨us, d, h1, h2⟩ := run_putRK (rs := rs) (r := r.2) (n := (putV t r.1 n).2.2) (k := fun us e => k ((putV t r.1 n).1 :: us) ((putV t r.1 n).2.1 ++ e)) h
      refine ⟨_, _, ?_, h2⟩
      show (putR rs r.2 (putV t r.1 n).2.2).map _ = _
      rw [h1]; rfl
  | .drop :: rs, r, n, k, h => by
      obtain ⟨us, d, h1, h2⟩ := run_putRK (rs := rs) (r := r.2) (n := n) (k := fun us e => k (.undef :: us) e) h
      refine ⟨_, _, ?_, h2⟩
      show (putR rs r.2 n).map _ = _
      rw [h1]; rfl
  | .box t :: rs, (none, r2), n, k, h => by
      obtain ⟨us, d, h1, h2⟩ := run_putRK (rs := rs) (r := r2) (n := n) (k := fun us e => k (.nilp :: us) e) h
      refine ⟨_, _, ?_, h2⟩
      show (putR rs r2 n).map _ = _
      rw [h1]; rfl
  | .box t :: rs, (some x, r2), n, k, h => by
      have h : (match conf t.plain (putV t x (n + 1)).1 with
        | true => putRK rs r2 (putV t x (n + 1)).2.2 fun us e => k (.ptr n [] :: us) ((.obj n, .obj t.plain (putV t x (n + 1)).1) :: (putV t x (n + 1)).2.1 ++ e)
        | false => .fail : Rd α).run S = some z := h
      cases hc : conf t.plain (putV t x (n + 1)).1 with
      | false => simp [hc] at h
      | true =>
        simp only [hc] at h
        obtain ⟨us, d, h1, h2⟩ := run_putRK h
        refine ⟨_, _, ?_, h2⟩
        show (if conf t.plain (putV t x (n + 1)).1 = true then (putR rs r2 (putV t x (n + 1)).2.2).map _ else none) = _
        rw [if_pos hc, h1]; rfl

theorem call_sound (hc : ∀ f q, E.call f = some q → Contract P f q ∧ goodA q.ps = true ∧ q.ps.length ≤ 500) : CallOp P E := by
  intro Mu nt S c a o d cl f q vs δ hMu h hd hdn ho hcl hq hvs hr
  obtain ⟨hcon, hgA, hlen⟩ := hc f q hq
  unfold callV at hr
  obtain ⟨y, hy, hr⟩ := run_bind_some.1 hr
  obtain ⟨g1, hr⟩ := run_guard_some.1 hr
  obtain ⟨g2, hr⟩ := run_guard_some.1 hr
  obtain ⟨g3, hr⟩ := run_guard_some.1 hr
  obtain ⟨⟨oo, rr⟩, hF, hr⟩ := run_opt_some.1 hr
  have hd5 : d < 5000 := by simpa using g3
  simp only at hr
  obtain ⟨us, d1, hpR, hr⟩ := run_putRK hr
  · cases hpO : putO q.ps oo y.places (100000 + 64 * d + d1.length) with
    | none => simp [hpO] at hr
    | some oo2 =>
      obtain ⟨o1, o2⟩ := oo2
      simp only [hpO] at hr
      obtain ⟨g4, hr⟩ := run_guard_some.1 hr
      obtain ⟨hnew, hfin⟩ := run_newNs hr
      simp only [run_ret, Option.some.injEq] at hfin
      have hlen4 : d1.length + o2.length ≤ 1000 := Nat.le_of_ble_eq_true g4
      simp only [Bool.and_eq_true] at g1
      have hnd := unlike_nodup g1.1
      have hLn : ∀ m ∈ y.bor.map (·.1) ++ y.vars, m ∉ y.own ++ y.places.map (·.1) := by
        intro m hm hm'
        have := List.all_eq_true.1 g1.2 m hm
        simp only [Bool.not_eq_true', List.any_eq_false, nat_beq, decide_eq_true_eq] at this
        exact this _ hm' rfl
      generalize hn0 : 100000 + 64 * d = n at *
      have hnb : n + 2000 ≤ parName := by simp only [parName]; omega
      have hxs := evs_sound h hvs
      obtain ⟨refs, rf1, rf2, pk, xl, hbor, found⟩ := call_ind h.objs (y.bor.map (·.1) ++ y.vars) q.ps vs _ y 0 startName hgA hy hxs (fun m hm => hm)
      -- the callee's context
      have hpar : ∀ m ∈ parsOf q.ps 0, parName ≤ m ∧ m < parName + 500 := fun m hm => by
        have := parsOf_mem _ _ _ hm; omega
      have hpd : ∀ m ∈ parsOf q.ps 0, ¬ (startName ≤ m ∧ m < startName + refs.length) := fun m hm hh =>
        Nat.not_lt.2 hh.1 (Nat.lt_trans (hpar m hm).2 (Nat.add_lt_add_left (by decide : 500 < 1000) parName))
      have hpl : (parsOf q.ps 0).length = (y.places.map (·.1)).length := by
        have : ∀ (ks : List PK) (i : Nat) (pls : List (Nat × Ty × Bool)), PlOk S ks pls → (parsOf ks i).length = pls.length := by
          intro ks
          induction ks with
          | nil => intro i pls hp; simp only [PlOk] at hp; subst hp; rfl
          | cons k ks ih =>
            intro i pls hp
            cases k with
            | val t => exact ih (i + 1) pls hp
            | rptr t => exact ih (i + 1) pls hp
            | ptr t => obtain ⟨p, ps, rfl, _, _, hp⟩ := hp; simp [parsOf, ih (i + 1) ps hp]
            | «mut» t => obtain ⟨p, ps, rfl, _, hp⟩ := hp; simp [parsOf, ih (i + 1) ps hp]
        rw [List.length_map]; exact this _ _ _ pk
      generalize hcc : calleeCx c (y.bor.map (·.1) ++ y.vars) (parsOf q.ps 0) (y.places.map (·.1)) startName refs = cc
      have ccw : cc.w = c.w := by rw [← hcc]; rfl
      have ccR : ∀ b o, cc.R b o ↔ (c.R b o ∨ lent c (y.bor.map (·.1) ++ y.vars) b) := fun b o => by rw [← hcc]; exact Iff.rfl
      have ccN : ∀ b, cc.N b ↔ (c.N b ∧ ¬ lent c (y.bor.map (·.1) ++ y.vars) b) := fun b => by rw [← hcc]; exact Iff.rfl
      have ccρ : cc.ρ = calleeRef c (parsOf q.ps 0) (y.places.map (·.1)) startName refs := by rw [← hcc]; rfl
      have hmv : Moves c cc := ⟨ccw, fun b o hr => ⟨(ccR b o).2 (.inl hr), fun hN => (ccN b).2 ⟨hN, fun ⟨m, _, hm⟩ => (h.objs.free m b hm).2 o hr⟩⟩⟩
      have hld : Lend c cc (y.bor.map (·.1) ++ y.vars) := ⟨ccw, fun b o hr => (ccR b o).2 (.inl hr), fun b hb o => (ccR b o).2 (.inr hb)⟩
      have hft : Fits c cc (y.own ++ y.places.map (·.1)) := fun m hm b hb hN => (ccN b).2 ⟨hN, fun ⟨m', hm', hb'⟩ => hLn m' hm' (h.objs.apart m' m b hb' hb ▸ hm)⟩
      have hnm : Named cc startName refs := fun i r hr => by rw [ccρ]; exact calleeRef_new hpd hr
      have hPls : Pls c cc (parsOf q.ps 0) y.places := fun j m p h1 h2 => by
        rw [ccρ]
        unfold calleeRef
        rw [parRef_get (p := p.1) (parsOf_nodup _ _) h1 (by simp [h2])]
      have F := found cc hmv hld hft hnm hPls (fun m hm hh => by rw [← rf2] at hh; exact hpd m hm hh)
      have hobj := callee_objs h.objs rf1 hnd hLn hpl (parsOf_nodup _ 0) hpd (fun m hm => (hpar m hm).1) (Nat.le_add_right parName 1000) (S' := startS q.ps y.x 0 startName)
        (fun m hm => by rw [hcc]; exact F.obj m (by rw [← rf2]; exact hm)) (fun m hm => F.out m (by rw [← rf2]; exact hm))
      rw [hcc] at hobj
      have hmu : ∀ b, calleeMu c (y.own ++ y.places.map (·.1)) b → Mu b := fun b hb => hb.elim (hMu b) fun ⟨k, _, hk⟩ => (h.objs.free k b hk).1
      have hargs : cl.args.map a.eval = (cl.args.toList.map a.eval).toArray := by apply Array.ext'; simp
      have hsz : (cl.args.map a.eval).size = q.ps.length := by rw [hargs]; simpa using xl
      have htmp : ∀ i, TR cc (startS q.ps y.x 0 startName (.tmp i)) ((cl.args.map a.eval).getD i undef) := fun i => by
        have := F.tmp i
        rw [Nat.zero_add] at this
        rw [hargs]; simpa [Array.getD_eq_getD_getElem?, List.getD_eq_getElem?_getD] using this
      intro K Q hK
      have hcall : CallF P f (cl.args.map a.eval) c.w fun v w' => ∃ c', c'.w = w' ∧ Ends (calleeMu c (y.own ++ y.places.map (·.1))) q cc c' n us d1 oo v := by
        have := hcon (calleeMu c (y.own ++ y.places.map (·.1))) cc (cl.args.map a.eval) y.x oo rr hF (fun b hb => .inl (by rw [← ccw]; exact hb)) hsz hobj htmp n us d1 hnb hpR
        rw [ccw] at this
        refine this ?_
        rw [← putO_end (S := S) q.ps oo y.places 0 (n + d1.length) pk hpO]
        exact hlen4
      refine CallF.wp ho hcl hcall fun v w' hres => ?_
      obtain ⟨c1, rfl, en⟩ := hres
      have ho2 := putO_end (S := S) q.ps oo y.places 0 (n + d1.length) pk hpO
      have ek := endO_keys q.ps oo 0 (n + d1.length)
      -- what has been there, and what is new
      have hownS := takeP_own q.ps vs hy
      have hplS := PlOk.def pk
      have hgP : roishP q.ps = false ∨ q.leads = true := by unfold Callee.leads; cases roishP q.ps <;> simp
      have hgR : freshR q.rs = true ∨ q.leads = true := by unfold Callee.leads; cases freshR q.rs <;> simp
      generalize hg : q.leads = g at *
      generalize hfz : (if g then y.bor.map (·.1) else []) = fz
      have fzb : ∀ m ∈ fz, g = true ∧ m ∈ y.bor.map (·.1) := fun m hm => by
        rw [← hfz] at hm
        cases g <;> simp at hm ⊢
        exact hm
      have fzS : ∀ m ∈ fz, ∃ f t l, S (.obj m) = .arrc f t l := fun m hm => by
        obtain ⟨q', hq', rfl⟩ := List.mem_map.1 (fzb m hm).2
        obtain ⟨f, t, l, e, _⟩ := hbor q' hq'
        exact ⟨f, t, l, e⟩
      generalize hk : d1.length + o2.length = k at *
      generalize hc2 : backCx c c1 g (y.bor.map (·.1) ++ y.vars) y.own fz n k = c2
      have c2w : c2.w = c1.w := by rw [← hc2]; rfl
      have c2R : ∀ b o, c2.R b o ↔ (c1.R b o ∧ (g = true ∨ ¬ lent c (y.bor.map (·.1) ++ y.vars) b)) := fun b o => by rw [← hc2]; exact Iff.rfl
      have c2N : c2.N = c.N := by rw [← hc2]; rfl
      have c2ρ : c2.ρ = backRef c c1 y.own fz n k := by rw [← hc2]; rfl
      have c1N : ∀ b, c1.N b → c.N b ∧ ¬ lent c (y.bor.map (·.1) ++ y.vars) b := fun b hb => (ccN b).1 (by rw [← en.goes.new]; exact hb)
      have htr0 : Tr c1 c2 g := ⟨c2w, fun b o hr hN => (c2R b o).2 ⟨hr, .inr (c1N b hN).2⟩, fun b hN => by rw [c2N]; exact (c1N b hN).1, fun hg b o hr => (c2R b o).2 ⟨hr, .inl hg⟩⟩
      have hundef : ∀ m, n ≤ m ∧ m < n + k → S (.obj m) = .undef := by
        intro m hm
        have hkd : Keys n d1 := by
          have htr1 : Tr c1 c1 true := ⟨rfl, fun _ _ h _ => h, fun _ h => h, fun _ _ _ h => h⟩
          exact (htr1.putR q.rs rr n (.inr rfl) hpR (fun _ _ => rfl)).1
        have hkk : Keys n (d1 ++ o2) := hkd.append (by rw [ho2]; exact ek)
        have hlt : m - n < (d1 ++ o2).length := by simp only [List.length_append]; omega
        have hq' : (d1 ++ o2)[m - n]? = some (d1 ++ o2)[m - n] := by simp [hlt]
        have h1 := hkk _ _ hq'
        obtain ⟨m', e1, e2⟩ := hnew _ (List.mem_of_getElem? hq')
        rw [h1] at e1
        cases e1
        rwa [show n + (m - n) = m by omega] at e2
      have hnone : ∀ m, n ≤ m ∧ m < n + k → c.ρ m = .none := fun m hm => h.objs.ref_none (hundef m hm)
      have hnown : ∀ m, n ≤ m ∧ m < n + k → m ∉ y.own := fun m hm hh => by
        obtain ⟨f, t, l, e⟩ := hownS m hh
        rw [hundef m hm] at e; cases e
      have ρnew : ∀ m, n ≤ m ∧ m < n + k → c2.ρ m = c1.ρ m := fun m hm => by
        rw [c2ρ]; unfold backRef
        rw [if_neg (hnown m hm), if_pos hm]
      have ρown : ∀ m ∈ y.own, c2.ρ m = .dead := fun m hm => by
        rw [c2ρ]; unfold backRef
        rw [if_pos hm]
      have ρfz : ∀ m ∈ fz, c2.ρ m = frzRef (c.ρ m) := fun m hm => by
        obtain ⟨f, t, l, e⟩ := fzS m hm
        have h1 : m ∉ y.own := fun hh => hLn m (List.mem_append.2 (.inl (fzb m hm).2)) (List.mem_append.2 (.inl hh))
        have h2 : ¬ (n ≤ m ∧ m < n + k) := fun hh => by rw [hundef m hh] at e; cases e
        rw [c2ρ]; unfold backRef
        rw [if_neg h1, if_neg h2, if_pos hm]
      have ρold : ∀ m, ¬ (n ≤ m ∧ m < n + k) → m ∉ y.own → m ∉ fz → c2.ρ m = c.ρ m := fun m h1 h2 h3 => by
        rw [c2ρ]; unfold backRef
        rw [if_neg h2, if_neg h1, if_neg h3]
      have ρpl : ∀ p ∈ y.places, c2.ρ p.1 = c.ρ p.1 := fun p hp => by
        have hp1 : p.1 ∈ y.places.map (·.1) := List.mem_map.2 ⟨p, hp, rfl⟩
        refine ρold p.1 (fun hh => ?_) (fun hh => ?_) (fun hh => ?_)
        · rcases hplS p hp with ⟨t, v, e⟩ | ⟨f, t, l, e⟩ <;> rw [hundef _ hh] at e <;> cases e
        · exact (List.nodup_append.1 hnd).2.2 p.1 hh p.1 hp1 rfl
        · exact hLn p.1 (List.mem_append.2 (.inl (fzb _ hh).2)) (List.mem_append.2 (.inr hp1))
      have hparpl : ∀ (j m : Nat) (p : Nat × Ty × Bool), (parsOf q.ps 0)[j]? = some m → y.places[j]? = some p → c1.ρ m = c.ρ p.1 := fun j m p h1 h2 => by
        rw [en.par m (List.mem_of_getElem? h1)]; exact hPls j m p h1 h2
      have plpar : ∀ p ∈ y.places, ∃ m ∈ parsOf q.ps 0, c1.ρ m = c.ρ p.1 := fun p hp => by
        obtain ⟨j, hj⟩ := List.getElem?_of_mem hp
        have hlt : j < (parsOf q.ps 0).length := by
          rw [hpl, List.length_map]; exact (List.getElem?_eq_some_iff.1 hj).1
        exact ⟨(parsOf q.ps 0)[j], List.getElem_mem hlt, hparpl j _ p (by simp [hlt]) hj⟩
      have hl2 : Later c c2 := by
        refine ⟨c2N, fun m hm => ?_, fun b o hr => ?_, fun b o u hr hcell => ?_⟩
        · by_cases e1 : m ∈ y.own
          · exact .inl (ρown m e1)
          · by_cases e2 : n ≤ m ∧ m < n + k
            · exact (hm (hnone m e2)).elim
            · by_cases e3 : m ∈ fz
              · right; right
                rw [ρfz m e3]
                obtain ⟨f, t, l, e⟩ := fzS m e3
                have hob := h.objs.obj m
                rw [e] at hob
                cases hρ : c.ρ m <;> rw [hρ] at hob <;> try exact hob.elim
                exact ⟨_, _, _, _, rfl, rfl⟩
              · exact .inr (.inl (ρold m e2 e1 e3))
        · refine (c2R b o).2 ⟨en.goes.more b o ((ccR b o).2 (.inl hr)), .inr fun ⟨m, _, hm⟩ => (h.objs.free m b hm).2 o hr⟩
        · rw [c2w]
          exact en.goes.mem b o u ((ccR b o).2 (.inl hr)) (by rw [ccw]; exact hcell)
      have hlentlt : ∀ L b, lent c L b → b < c.w.heap.size := fun L b ⟨m, _, hm⟩ => h.objs.blk_lt hm
      have hs2 : Step Mu c c2 := by
        refine ⟨hl2, by rw [c2w, ← ccw]; exact en.goes.size, fun b o hr => ?_, fun b hb hm => ?_, by rw [c2w, en.goes.os, ccw], by rw [c2w, en.goes.tape, ccw], by rw [c2w, en.goes.output, ccw]⟩
        · have hr1 := ((c2R b o).1 hr).1
          rcases en.goes.newR b o hr1 with h1 | ⟨h1, h2⟩
          · rcases (ccR b o).1 h1 with h1 | h1
            · exact .inl h1
            · refine .inr ⟨?_, ?_⟩
              · obtain ⟨m, _, hm⟩ := h1; exact (h.objs.free m b hm).1
              · rw [c2w]
                have := hlentlt _ _ h1
                have := en.goes.size
                rw [ccw] at this; omega
          · exact .inr ⟨hmu b h1, by rw [c2w]; exact h2⟩
        · rw [c2w, ← ccw]
          exact en.goes.kept b (by rw [ccw]; exact hb) fun hh => hm (hmu b hh)
      -- the callee's last objects
      have hkd := (htr0.putR q.rs rr n hgR hpR (fun i hi => ρnew _ ⟨by omega, by omega⟩))
      have hkk : Keys n (d1 ++ o2) := hkd.1.append (by rw [ho2]; exact ek)
      have hpk := parsOf_key q.ps oo 0 (n + d1.length)
      have hpnd : ((endO q.ps oo 0 (n + d1.length)).1.map (·.1)).Nodup := by
        rw [hpk]
        exact List.Pairwise.map Loc.obj (fun a b hab e => hab (by cases e; rfl)) (parsOf_nodup q.ps 0)
      have hE1 : ∀ q' ∈ (endO q.ps oo 0 (n + d1.length)).1, ∀ m, q'.1 = .obj m → ObjR c1 q'.2 (c1.ρ m) := by
        intro q' hq' m e
        have := en.objs.obj m
        rw [apply_append, apply_nodup _ _ (.obj m) q'.2 hpnd (by rw [← e]; exact hq')] at this
        exact this
      have hDk : DOk c1 n (d1 ++ o2) := by
        intro i q' hq'
        have hi := (List.getElem?_eq_some_iff.1 hq').1
        have := en.objs.obj (n + i)
        rw [← ho2, apply_append] at this
        rcases apply_look (endO q.ps oo 0 (n + d1.length)).1 (emptyS.apply (d1 ++ o2)) (.obj (n + i)) with ⟨v, hv1, _⟩ | ⟨_, hv2⟩
        · have hmem : (Loc.obj (n + i)) ∈ (endO q.ps oo 0 (n + d1.length)).1.map (·.1) := List.mem_map.2 ⟨_, hv1, rfl⟩
          rw [hpk] at hmem
          obtain ⟨m', hm', e⟩ := List.mem_map.1 hmem
          cases e
          have := (hpar _ hm').1
          simp only [List.length_append] at hi
          omega
        · rw [hv2, apply_keys _ n _ _ hkk] at this
          dsimp only at this
          rw [if_pos ⟨by omega, by omega⟩, show n + i - n = i by omega, hq'] at this
          exact this
      have hpO2 := htr0.putO (S := S) q.ps oo y.places 0 (n + d1.length) hgP pk hpO (fun i hi => by
          have := ρnew (n + d1.length + i) ⟨by omega, by rw [← ho2] at hi; omega⟩
          exact this) (fun j m p h1 h2 => by rw [ρpl p (List.mem_of_getElem? h2), hparpl j m p h1 h2]) (fun p hp ⟨t, l, hS⟩ b hb => by
          rw [ρpl p hp] at hb
          have hob := h.objs.obj p.1
          rw [hS] at hob
          cases hρ : c.ρ p.1 <;> rw [hρ] at hob hb <;> try exact hob.elim
          rename_i b' t' len cap
          simp only [Ref.blk] at hb
          subst hb
          rw [c2N]
          exact hob.2.2.2.2.2.2.1 rfl) hE1 (by rw [← ho2]; exact hDk.right)
      obtain ⟨_, ho1k, _, ho1o, hDo2⟩ := hpO2
      have hDd1 := hkd.2.2 hDk.left
      -- the changes, one after another
      have hδ : S.apply δ = (((((S.apply (if g then frzs y.bor else [])).apply (kills y.own)).apply o2).apply o1).apply d1).set (.tmp d) (oneV us) := by
        rw [← hfin, apply_append, apply_append, apply_append, apply_append, apply_cons]
      have hFk : ∀ m v, (Loc.obj m, v) ∈ (if g then frzs y.bor else []) → m ∈ fz ∧ (m, v) ∈ y.bor := by
        intro m v hm
        cases g
        · simp at hm
        · simp only [if_true, frzs] at hm
          obtain ⟨q', hq', e⟩ := List.mem_map.1 hm
          simp only [Prod.mk.injEq, Loc.obj.injEq] at e
          obtain ⟨rfl, rfl⟩ := e
          refine ⟨?_, hq'⟩
          rw [← hfz]; simp only [if_true]
          exact List.mem_map.2 ⟨q', hq', rfl⟩
      have hFk2 : ∀ m ∈ fz, (Loc.obj m) ∈ (if g then frzs y.bor else []).map (·.1) := by
        intro m hm
        obtain ⟨hgt, hm⟩ := fzb m hm
        obtain ⟨q', hq', rfl⟩ := List.mem_map.1 hm
        rw [hgt]; simp only [if_true, frzs, List.map_map]
        exact List.mem_map.2 ⟨q', hq', rfl⟩
      have hFobj : ∀ q' ∈ (if g then frzs y.bor else []), ∃ m, q'.1 = .obj m := by
        intro q' hq'
        cases g
        · simp at hq'
        · simp only [if_true, frzs] at hq'
          obtain ⟨p, _, rfl⟩ := List.mem_map.1 hq'
          exact ⟨_, rfl⟩
      have hkeyobj : ∀ {n : Nat} {l : List (Loc × V)}, Keys n l → ∀ q' ∈ l, ∃ m, q'.1 = .obj m := fun hk q' hq' => by
        obtain ⟨i, hi⟩ := List.getElem?_of_mem hq'
        exact ⟨_, hk i q' hi⟩
      have ho1obj : ∀ q' ∈ o1, ∃ m, q'.1 = .obj m := fun q' hq' => by
        have : q'.1 ∈ o1.map (·.1) := List.mem_map.2 ⟨q', hq', rfl⟩
        rw [ho1k] at this
        obtain ⟨p, _, e⟩ := List.mem_map.1 this
        exact ⟨p.1, e.symm⟩
      have hblk : ∀ m b, (c2.ρ m).blk = some b → (n ≤ m ∧ m < n + k ∧ c2.ρ m = c1.ρ m) ∨ (m ∉ y.own ∧ m ∉ fz ∧ c2.ρ m = c.ρ m) := by
        intro m b hb
        by_cases e1 : m ∈ y.own
        · rw [ρown m e1] at hb; simp [Ref.blk] at hb
        · by_cases e2 : n ≤ m ∧ m < n + k
          · exact .inl ⟨e2.1, e2.2, ρnew m e2⟩
          · by_cases e3 : m ∈ fz
            · rw [ρfz m e3] at hb
              obtain ⟨f, t, l, e⟩ := fzS m e3
              have hob := h.objs.obj m
              rw [e] at hob
              cases hρ : c.ρ m <;> rw [hρ] at hob hb <;> try exact hob.elim
              simp [frzRef, Ref.blk] at hb
            · exact .inr ⟨e1, e3, ρold m e2 e1 e3⟩
      -- a block that is no place's is not the callee's
      have hnotmu : ∀ m b, (c.ρ m).blk = some b → m ∉ y.own → m ∉ y.places.map (·.1) → ¬ calleeMu c (y.own ++ y.places.map (·.1)) b := by
        intro m b hb h1 h2 hh
        rcases hh with hh | ⟨k', hk', hb'⟩
        · have := h.objs.blk_lt hb; omega
        · have := h.objs.apart m k' b hb hb'
          subst this
          exact (List.mem_append.1 hk').elim h1 h2
      have hobjs : ObjsR Mu (S.apply δ) c2 := by
        refine ⟨fun m => ?_, fun m m' b h1 h2 => ?_, fun m b hb => ?_, fun m b t hm hlt => ?_, fun b hb => ?_, fun b o hr => ?_⟩
        · rw [hδ, St.set_other _ _ _ _ (by simp)]
          rcases apply_look d1 ((((S.apply (if g then frzs y.bor else [])).apply (kills y.own)).apply o2).apply o1) (.obj m) with ⟨v, hv, e⟩ | ⟨hn1, e⟩
          · rw [e]
            obtain ⟨i, hi⟩ := List.getElem?_of_mem hv
            have hk1 := hkd.1 i _ hi
            cases hk1
            exact hDd1 i _ hi
          · rw [e]
            rcases apply_look o1 (((S.apply (if g then frzs y.bor else [])).apply (kills y.own)).apply o2) (.obj m) with ⟨v, hv, e⟩ | ⟨hn2, e⟩
            · rw [e]; exact ho1o _ hv m rfl
            · rw [e]
              rcases apply_look o2 ((S.apply (if g then frzs y.bor else [])).apply (kills y.own)) (.obj m) with ⟨v, hv, e⟩ | ⟨hn3, e⟩
              · rw [e]
                obtain ⟨i, hi⟩ := List.getElem?_of_mem hv
                have hk1 : (Loc.obj m) = .obj (n + d1.length + i) := by
                  rw [ho2] at hi; exact ek i _ hi
                cases hk1
                exact hDo2 i _ hi
              · rw [e]
                rcases apply_look (kills y.own) (S.apply (if g then frzs y.bor else [])) (.obj m) with ⟨v, hv, e⟩ | ⟨hn4, e⟩
                · rw [e]
                  simp only [kills] at hv
                  obtain ⟨m', hm', e'⟩ := List.mem_map.1 hv
                  simp only [Prod.mk.injEq, Loc.obj.injEq] at e'
                  obtain ⟨rfl, rfl⟩ := e'
                  rw [ρown _ hm']; trivial
                · rw [e]
                  have hmo : m ∉ y.own := fun hh => hn4 (by simp only [kills, List.map_map]; exact List.mem_map.2 ⟨m, hh, rfl⟩)
                  have hmp : m ∉ y.places.map (·.1) := fun hh => hn2 (by
                    rw [ho1k]
                    obtain ⟨p, hp, rfl⟩ := List.mem_map.1 hh
                    exact List.mem_map.2 ⟨p, hp, rfl⟩)
                  rcases apply_look (if g then frzs y.bor else []) S (.obj m) with ⟨v, hv, e⟩ | ⟨hn5, e⟩
                  · rw [e]
                    obtain ⟨hf1, hf2⟩ := hFk m v hv
                    obtain ⟨f, t, l, e1, e2⟩ := hbor _ hf2
                    simp only at e1 e2
                    subst e2
                    rw [ρfz m hf1]
                    have hob := h.objs.obj m
                    rw [e1] at hob
                    refine hob.frozen hl2 (fun b hb o => ?_) (fun b hb => ?_)
                    · refine (c2R b o).2 ⟨en.goes.more b o ((ccR b o).2 (.inr ⟨m, List.mem_append.2 (.inl (fzb m hf1).2), hb⟩)), .inl (fzb m hf1).1⟩
                    · rw [c2w, ← ccw]
                      exact en.goes.kept b (by rw [ccw]; exact h.objs.blk_lt hb) (hnotmu m b hb hmo hmp)
                  · rw [e]
                    have hmf : m ∉ fz := fun hh => hn5 (hFk2 m hh)
                    have hmr : ¬ (n ≤ m ∧ m < n + k) := fun hh => by
                      have hlt : m - n < (d1 ++ o2).length := by simp only [List.length_append]; omega
                      have hq' : (d1 ++ o2)[m - n]? = some (d1 ++ o2)[m - n] := by simp [hlt]
                      have h1 := hkk _ _ hq'
                      rw [show n + (m - n) = m by omega] at h1
                      rcases List.mem_append.1 (List.mem_of_getElem? hq') with hm1 | hm1
                      · exact hn1 (List.mem_map.2 ⟨_, hm1, h1⟩)
                      · exact hn3 (List.mem_map.2 ⟨_, hm1, h1⟩)
                    rw [ρold m hmr hmo hmf]
                    refine (h.objs.obj m).move hl2 fun b hb => ?_
                    rw [c2w, ← ccw]
                    exact en.goes.kept b (by rw [ccw]; exact h.objs.blk_lt hb) (hnotmu m b hb hmo hmp)
        · have key : ∀ m m' b, n ≤ m ∧ m < n + k → (c1.ρ m).blk = some b → m' ∉ y.own → (c.ρ m').blk = some b → False := by
            intro m m' b hm hb h1 hb'
            have hfree := (en.objs.free m b hb).1
            by_cases hp : m' ∈ y.places.map (·.1)
            · obtain ⟨p, hp', rfl⟩ := List.mem_map.1 hp
              obtain ⟨m2, hm2, e⟩ := plpar p hp'
              have := en.objs.apart m m2 b hb (by rw [e]; exact hb')
              subst this
              have := (hpar _ hm2).1
              omega
            · exact hnotmu m' b hb' h1 hp hfree
          rcases hblk m b h1 with ⟨a1, a2, a3⟩ | ⟨a1, a2, a3⟩ <;> rcases hblk m' b h2 with ⟨b1, b2, b3⟩ | ⟨b1, b2, b3⟩
          · rw [a3] at h1; rw [b3] at h2
            exact en.objs.apart m m' b h1 h2
          · rw [a3] at h1; rw [b3] at h2
            exact (key m m' b ⟨a1, a2⟩ h1 b1 h2).elim
          · rw [a3] at h1; rw [b3] at h2
            exact (key m' m b ⟨b1, b2⟩ h2 a1 h1).elim
          · rw [a3] at h1; rw [b3] at h2
            exact h.objs.apart m m' b h1 h2
        · rcases hblk m b hb with ⟨a1, a2, a3⟩ | ⟨a1, a2, a3⟩
          · rw [a3] at hb
            have hf := en.objs.free m b hb
            exact ⟨hmu b hf.1, fun o hr => hf.2 o ((c2R b o).1 hr).1⟩
          · rw [a3] at hb
            refine ⟨(h.objs.free m b hb).1, fun o hr => ?_⟩
            obtain ⟨hr1, hr2⟩ := (c2R b o).1 hr
            by_cases hp : m ∈ y.places.map (·.1)
            · obtain ⟨p, hp', rfl⟩ := List.mem_map.1 hp
              obtain ⟨m2, hm2, e⟩ := plpar p hp'
              exact (en.objs.free m2 b (by rw [e]; exact hb)).2 o hr1
            · rcases en.goes.newR b o hr1 with hr1 | ⟨hr1, _⟩
              · rcases (ccR b o).1 hr1 with hr1 | hr1
                · exact (h.objs.free m b hb).2 o hr1
                · rcases hr2 with hr2 | hr2
                  · obtain ⟨m', hm', hb'⟩ := hr1
                    have := h.objs.apart m' m b hb' hb
                    subst this
                    have hv : y.vars = [] := by
                      rw [hr2] at g2
                      simpa using g2
                    rw [hv, List.append_nil] at hm'
                    refine a2 ?_
                    rw [← hfz, hr2]; simpa using hm'
                  · exact hr2 hr1
              · exact hnotmu m b hb a1 hp hr1
        · rw [c2N]
          rcases hblk m b (by rw [hm]; rfl) with ⟨a1, a2, a3⟩ | ⟨a1, a2, a3⟩
          · rw [a3] at hm
            exact (c1N b (en.objs.new m b t hm hlt)).1
          · rw [a3] at hm
            exact h.objs.new m b t hm hlt
        · rw [c2N]
          refine h.objs.base b (Nat.le_trans ?_ hb)
          rw [c2w, ← ccw]; exact en.goes.size
        · rw [c2w]; exact en.objs.rlt b o ((c2R b o).1 hr).1
      have hrel : Rel Mu nt (S.apply δ) c2 (a.put o.dst v) := by
        have htmpS : ∀ t, (((((S.apply (if g then frzs y.bor else [])).apply (kills y.own)).apply o2).apply o1).apply d1) (.tmp t) = S (.tmp t) := by
          intro t
          rw [apply_objs _ _ _ (hkeyobj hkd.1), apply_objs _ _ _ ho1obj, apply_objs _ _ _ (hkeyobj (by rw [ho2]; exact ek)), apply_objs _ _ _ (fun q' hq' => by
            simp only [kills] at hq'
            obtain ⟨m', _, rfl⟩ := List.mem_map.1 hq'
            exact ⟨_, rfl⟩), apply_objs _ _ _ hFobj]
        have hv2 : TR c2 (oneV us) v := TR_one_tr (putR_solid _ _ _ hpR) hkd.2.1 en.val
        have hrel0 : Rel Mu nt ((((((S.apply (if g then frzs y.bor else [])).apply (kills y.own)).apply o2).apply o1).apply d1)) c2 a :=
          h.objs' hl2 htmpS (by
            refine hobjs.congr fun m => ?_
            rw [hδ, St.set_other _ _ _ _ (by simp)])
        rw [hδ, hd]
        exact hrel0.setTmp hdn hv2
      have := hK c2 _ hrel hs2
      rw [c2w] at this
      exact this

end
end Go.Eng
