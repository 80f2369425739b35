/- The engine, part V: the end of a call. -/
import Derived.Test.YtnpeafceolodiaaGreatEngU
namespace Go.Eng
open Go.RowKit

section
variable {P : Program} {E : Env} {Mu : Nat → Prop} {nt : Nat} {S : St} {c c' : Cx} {a : Act}

theorem takeBox_some {t : Ty} {v : V} {k : Tk (Option t.den)} (h : (takeBox t v).run S = some k) : (v = .nilp ∧ k = ⟨none, [], [], [], true⟩) ∨
    ∃ m u x, v = .ptr m [] ∧ m < parName ∧ S (.obj m) = .obj t.plain u ∧ (takeV t u).run S = some x ∧ k = ⟨some x.x, m :: x.own, x.bor, x.vars, true⟩ := by
  cases v <;> try (simp [takeBox] at h; done)
  case nilp => simp [takeBox] at h; exact .inl ⟨rfl, h.symm⟩
  case ptr m p =>
    cases p with
    | cons _ _ => simp [takeBox] at h
    | nil =>
      simp only [takeBox, run_guard_some, run_get, run_bind_some] at h
      obtain ⟨hlt, x, h1, h2⟩ := h
      obtain ⟨u, hS, h1⟩ := takeObj_some h1
      exact .inr ⟨m, u, x, rfl, by simpa using hlt, hS, h1, (Option.some.inj h2).symm⟩

theorem takeK_frz {bor : List (Nat × V)} (hb : Bor S bor) : ∀ {r : RK} {v : V} {k : Tk r.den}, (takeK r v).run S = some k → (∀ q ∈ k.bor, q ∈ bor) → (∀ m ∈ k.own, ∀ u, (m, u) ∉ bor) → k.vars = [] →
    (takeK r v).run (S.apply (frzs bor)) = some { k with bor := [] }
  | .val t, v, k, hr, hk, ho, hv => takeV_frz hb hr hk ho hv
  | .drop, v, k, hr, _, _, _ => by
      have : k = ⟨(), [], [], [], true⟩ := (Option.some.inj hr).symm
      subst this; rfl
  | .box t, v, k, hr, hk, ho, hv => by
      have h1 : (takeBox t v).run S = some k := hr
      rcases takeBox_some h1 with ⟨rfl, rfl⟩ | ⟨m, u, x, rfl, hlt, hS, h2, rfl⟩
      · rfl
      · have e1 := takeV_frz hb h2 hk (fun m hm => ho m (by simp [hm])) hv
        show (Rd.guard (Nat.blt m parName) (.get (.obj m) fun c => (takeObj t c).bind fun x => .ret ⟨some x.x, m :: x.own, x.bor, x.vars, true⟩) : Rd (Tk (Option t.den))).run _ = some _
        refine run_guard_some.2 ⟨by simpa using hlt, ?_⟩
        rw [run_get]
        refine run_bind_some.2 ⟨{ x with bor := [] }, ?_, rfl⟩
        rw [frzs_var hb hS]
        simp only [takeObj, if_true]
        exact e1

theorem takeR_frz {bor : List (Nat × V)} (hb : Bor S bor) : ∀ (rs : List RK) {vs : List V} {k : Tk (DR rs)}, (takeR rs vs).run S = some k → (∀ q ∈ k.bor, q ∈ bor) → (∀ m ∈ k.own, ∀ u, (m, u) ∉ bor) → k.vars = [] →
    ∃ k', (takeR rs vs).run (S.apply (frzs bor)) = some k' ∧ k'.x = k.x ∧ k'.own = k.own ∧ k'.bor = [] ∧ k'.vars = []
  | [], [], k, hr, _, _, _ => by simp [takeR] at hr; subst hr; exact ⟨_, rfl, rfl, rfl, rfl, rfl⟩
  | [], _ :: _, k, hr, _, _, _ => by simp [takeR] at hr
  | r :: rs, [], k, hr, _, _, _ => by simp [takeR] at hr
  | r :: rs, v :: vs, k, hr, hk, ho, hv => by
      simp only [takeR, run_bind_some] at hr
      obtain ⟨x, h1, y, h2, hr⟩ := hr
      obtain rfl : x.and y = k := Option.some.inj hr
      simp [Tk.and] at hv
      have e1 := takeK_frz hb h1 (fun q hq => hk q (by simp [Tk.and, hq])) (fun m hm => ho m (by simp [Tk.and, hm])) hv.1
      obtain ⟨y', e2, q1, q2, q3, q4⟩ := takeR_frz hb rs h2 (fun q hq => hk q (by simp [Tk.and, hq])) (fun m hm => ho m (by simp [Tk.and, hm])) hv.2
      refine ⟨Tk.and { x with bor := [] } y', ?_, by show (x.x, y'.x) = (x.x, y.x); rw [q1], by simp [Tk.and, q2], by simp [Tk.and, q3], by simp [Tk.and, q4, hv.1]⟩
      show ((takeK r v).bind fun x => (takeR rs vs).bind fun y => Rd.ret (x.and y)).run _ = _
      exact run_bind_some.2 ⟨_, e1, run_bind_some.2 ⟨y', e2, rfl⟩⟩

theorem TRv.cons {v : V} {vs : List V} {xs : List Value} (h : TRv c (v :: vs) xs) : ∃ x ys, xs = x :: ys ∧ TR c v x ∧ TRv c vs ys := by
  match xs, h with
  | x :: ys, ⟨h1, h2⟩ => exact ⟨x, ys, rfl, h1, h2⟩

theorem takeR_put (h : ObjsR Mu S c) : ∀ (rs : List RK) {vs : List V} {k : Tk (DR rs)} {xs : List Value} (n : Nat), goodR rs = true → (takeR rs vs).run S = some k → k.bor = [] → k.vars = [] → TRv c vs xs →
    ∃ us d refs, putR rs k.x n = some (us, d) ∧ d.length = refs.length ∧ Keys n d ∧ Refs c k.own refs ∧ ∀ c', Moves c c' → Fits c c' k.own → Named c' n refs → TRv c' us xs ∧ DOk c' n d
  | [], [], k, xs, n, _, hr, _, _, hx => by
      simp [takeR] at hr; subst hr
      match xs, hx with
      | [], _ => exact ⟨[], [], [], rfl, rfl, .nil _, .nil c, fun c' _ _ _ => ⟨trivial, .nil _ _⟩⟩
  | [], _ :: _, k, xs, n, _, hr, _, _, _ => by simp [takeR] at hr
  | r :: rs, [], k, xs, n, _, hr, _, _, _ => by simp [takeR] at hr
  | .val t :: rs, v :: vs, k, xs, n, hg, hr, hb, hv, hx => by
      obtain ⟨x, h1, hr⟩ := run_bind_some.1 (show ((takeK (.val t) v).bind fun x => (takeR rs vs).bind fun y => Rd.ret (x.and y)).run S = some k from hr)
      obtain ⟨y, h2, hr⟩ := run_bind_some.1 hr
      obtain rfl : x.and y = k := Option.some.inj hr
      have h1 : (takeV t v).run S = some x := h1
      obtain ⟨z, ys, rfl, hz, hxs⟩ := hx.cons
      simp only [goodR, Bool.and_eq_true] at hg
      simp [Tk.and] at hb hv
      have hcf := takeV_conf h1
      have hcr := hz.cells hcf
      obtain ⟨v', d1, r1, e1, l1, k1, f1, m1⟩ := put_move h n hg.1 h1 hb.1 hv.1 hcr.1
      obtain ⟨us, d2, r2, e2, l2, k2, f2, m2⟩ := takeR_put h rs (n + r1.length) hg.2 h2 hb.2 hv.2 hxs
      refine ⟨v' :: us, d1 ++ d2, r1 ++ r2, ?_, by simp [l1, l2], k1.append (by rw [l1]; exact k2), f1.append f2, fun c' hm hf hn => ?_⟩
      · show putR (.val t :: rs) (x.x, y.x) n = _
        simp only [putR, e1, e2, Option.map_some]
      · obtain ⟨p1, p2⟩ := m1 c' hm (fun m hm' => hf m (by simp [Tk.and, hm'])) hn.left
        obtain ⟨p3, p4⟩ := m2 c' hm (fun m hm' => hf m (by simp [Tk.and, hm'])) hn.right
        have hcv : conf t v' = true := by
          have := conf_putV x.x n hg.1
          rw [e1, conf_plain] at this; exact this
        exact ⟨⟨hz.again hcf hcv p1, p3⟩, p2.append (by rw [l1]; exact p4)⟩
  | .drop :: rs, v :: vs, k, xs, n, hg, hr, hb, hv, hx => by
      obtain ⟨x, h1, hr⟩ := run_bind_some.1 (show ((takeK .drop v).bind fun x => (takeR rs vs).bind fun y => Rd.ret (x.and y)).run S = some k from hr)
      obtain ⟨y, h2, hr⟩ := run_bind_some.1 hr
      obtain rfl : x.and y = k := Option.some.inj hr
      have : x = ⟨(), [], [], [], true⟩ := (Option.some.inj h1).symm
      subst this
      obtain ⟨z, ys, rfl, hz, hxs⟩ := hx.cons
      simp [Tk.and] at hb hv
      obtain ⟨us, d2, r2, e2, l2, k2, f2, m2⟩ := takeR_put h rs n hg h2 hb hv hxs
      refine ⟨.undef :: us, d2, r2, ?_, l2, k2, by simpa [Tk.and] using f2, fun c' hm hf hn => ?_⟩
      · show putR (.drop :: rs) ((), y.x) n = _
        simp only [putR, e2, Option.map_some]
      · obtain ⟨p3, p4⟩ := m2 c' hm (by simpa [Tk.and] using hf) hn
        exact ⟨⟨trivial, p3⟩, p4⟩
  | .box t :: rs, v :: vs, k, xs, n, hg, hr, hb, hv, hx => by
      obtain ⟨x, h1, hr⟩ := run_bind_some.1 (show ((takeK (.box t) v).bind fun x => (takeR rs vs).bind fun y => Rd.ret (x.and y)).run S = some k from hr)
      obtain ⟨y, h2, hr⟩ := run_bind_some.1 hr
      obtain rfl : x.and y = k := Option.some.inj hr
      have h1 : (takeBox t v).run S = some x := h1
      obtain ⟨z, ys, rfl, hz, hxs⟩ := hx.cons
      simp only [goodR, Bool.and_eq_true] at hg
      simp [Tk.and] at hb hv
      rcases takeBox_some h1 with ⟨rfl, rfl⟩ | ⟨m, u, w, rfl, hlt, hS, h3, rfl⟩
      · obtain ⟨us, d2, r2, e2, l2, k2, f2, m2⟩ := takeR_put h rs n hg.2 h2 hb.2 hv.2 hxs
        refine ⟨.nilp :: us, d2, r2, ?_, l2, k2, by simpa [Tk.and] using f2, fun c' hm hf hn => ?_⟩
        · show putR (.box t :: rs) (none, y.x) n = _
          simp only [putR, e2, Option.map_some]
        · obtain ⟨p3, p4⟩ := m2 c' hm (by simpa [Tk.and] using hf) hn
          have : z = .pointer none := by simpa [TR, TR1, CR] using hz
          exact ⟨⟨by simp [TR, TR1, CR, this], p3⟩, p4⟩
      · have hob := h.obj m
        rw [hS] at hob
        have hzp := hz.ptr
        cases hρ : c.ρ m <;> rw [hρ] at hob hzp <;> try exact hob.elim
        rename_i b t'
        obtain ⟨rfl, _, hcu, cells, e, hbb, hcr⟩ := hob
        obtain ⟨v', d1, r1, e1, l1, k1, f1, m1⟩ := put_move h (n + 1) hg.1 h3 hb.1 hv.1 hcr
        obtain ⟨us, d2, r2, e2, l2, k2, f2, m2⟩ := takeR_put h rs (n + 1 + r1.length) hg.2 h2 hb.2 hv.2 hxs
        have hcv : conf t.plain v' = true := by
          have := conf_putV w.x (n + 1) hg.1
          rw [e1] at this; exact this
        have hone : Refs c [m] [c.ρ m] := ⟨by simp [List.filterMap], fun r hr b' t'' he => by
          simp at hr; subst hr
          exact h.new m b' t'' he hlt⟩
        refine ⟨.ptr n [] :: us, (.obj n, .obj t.plain v') :: (d1 ++ d2), c.ρ m :: (r1 ++ r2), ?_, by simp [l1, l2], ?_, ?_, fun c' hm hf hn => ?_⟩
        · show putR (.box t :: rs) (some w.x, y.x) n = _
          simp only [putR, e1, hcv, if_true, e2, Option.map_some]
          rfl
        · intro i q hq
          cases i with
          | zero => simp at hq; subst hq; rfl
          | succ i =>
            have := (k1.append (by rw [l1]; exact k2)) i q (by simpa using hq)
            rw [this]; congr 1; omega
        · have := (hone.append f1).append f2
          simpa [Tk.and] using this
        · have hn0 : c'.ρ n = c.ρ m := hn 0 _ rfl
          have hn1 : Named c' (n + 1) (r1 ++ r2) := fun i r hr => by
            have := hn (i + 1) r (by simpa using hr)
            rwa [show n + (i + 1) = n + 1 + i by omega] at this
          obtain ⟨p1, p2⟩ := m1 c' hm (fun m hm' => hf m (by simp [Tk.and, hm'])) hn1.left
          obtain ⟨p3, p4⟩ := m2 c' hm (fun m hm' => hf m (by simp [Tk.and, hm'])) hn1.right
          refine ⟨⟨?_, p3⟩, ?_⟩
          · simp only [TR, TR1, CR]
            exact ⟨_, rfl, by rw [hn0, hρ]; exact hzp⟩
          · intro i q hq
            cases i with
            | zero =>
              simp at hq; subst hq
              simp only [Nat.add_zero]
              rw [hn0, hρ]
              exact ⟨rfl, hg.1, hcv, cells, _, by rw [hm.w]; exact hbb, p1⟩
            | succ i =>
              have := (p2.append (by rw [l1]; exact p4)) i q (by simpa using hq)
              rwa [show n + (i + 1) = n + 1 + i by omega]

theorem takeRow_frz {bor : List (Nat × V)} (hb : Bor S bor) {m : Nat} (hm : ∀ u, (m, u) ∉ bor) : S.apply (frzs bor) (.obj m) = S (.obj m) := by
  rcases frzs_obj S bor m hb with ⟨u, h, _⟩ | ⟨_, hh⟩
  · exact (hm u h).elim
  · exact hh

theorem takeO_frz {bor : List (Nat × V)} (hb : Bor S bor) : ∀ (ks : List PK) (i : Nat) {k : Tk (DO ks)}, (takeO ks i).run S = some k → (∀ q ∈ k.bor, q ∈ bor) → (∀ m ∈ k.own, ∀ u, (m, u) ∉ bor) → (∀ m ∈ parsOf ks i, ∀ u, (m, u) ∉ bor) → k.vars = [] →
    ∃ k', (takeO ks i).run (S.apply (frzs bor)) = some k' ∧ k'.x = k.x ∧ k'.own = k.own ∧ k'.bor = [] ∧ k'.vars = []
  | [], i, k, hr, _, _, _, _ => by simp [takeO] at hr; subst hr; exact ⟨_, rfl, rfl, rfl, rfl, rfl⟩
  | .val _ :: ks, i, k, hr, hk, ho, hp, hv => takeO_frz hb ks (i + 1) hr hk ho hp hv
  | .rptr _ :: ks, i, k, hr, hk, ho, hp, hv => takeO_frz hb ks (i + 1) hr hk ho hp hv
  | .ptr t :: ks, i, k, hr, hk, ho, hp, hv => by
      simp only [takeO, run_get] at hr
      obtain ⟨x, h1, hr⟩ := run_bind_some.1 hr
      obtain ⟨y, h2, hr⟩ := run_bind_some.1 hr
      obtain rfl : x.and y = k := Option.some.inj hr
      simp [Tk.and] at hv
      obtain ⟨u, hS, h1⟩ := takeObj_some h1
      have e1 := takeV_frz hb h1 (fun q hq => hk q (by simp [Tk.and, hq])) (fun m hm => ho m (by simp [Tk.and, hm])) hv.1
      obtain ⟨y', e2, q1, q2, q3, q4⟩ := takeO_frz hb ks (i + 1) h2 (fun q hq => hk q (by simp [Tk.and, hq])) (fun m hm => ho m (by simp [Tk.and, hm])) (fun m hm => hp m (by simp [parsOf, hm])) hv.2
      refine ⟨Tk.and { x with bor := [] } y', ?_, by show (x.x, y'.x) = (x.x, y.x); rw [q1], by simp [Tk.and, q2], by simp [Tk.and, q3], by simp [Tk.and, q4, hv.1]⟩
      simp only [takeO, run_get, frzs_var hb hS]
      refine run_bind_some.2 ⟨{ x with bor := [] }, ?_, run_bind_some.2 ⟨y', e2, rfl⟩⟩
      simp only [takeObj, if_true]
      exact e1
  | .mut t :: ks, i, k, hr, hk, ho, hp, hv => by
      simp only [takeO, run_get] at hr
      cases hrow : takeRow t (S (.obj (parName + i))) with
      | none => simp [hrow] at hr
      | some l =>
        simp only [hrow] at hr
        obtain ⟨y, h2, hr⟩ := run_bind_some.1 hr
        obtain rfl : Tk.and ⟨l, [], [], [], true⟩ y = k := Option.some.inj hr
        simp [Tk.and] at hv
        obtain ⟨y', e2, q1, q2, q3, q4⟩ := takeO_frz hb ks (i + 1) h2 (fun q hq => hk q (by simp [Tk.and, hq])) (fun m hm => ho m (by simp [Tk.and, hm])) (fun m hm => hp m (by simp [parsOf, hm])) hv
        refine ⟨Tk.and ⟨l, [], [], [], true⟩ y', ?_, by show (l, y'.x) = (l, y.x); rw [q1], by simp [Tk.and, q2], by simp [Tk.and, q3], by simp [Tk.and, q4]⟩
        have hS1 := takeRow_frz hb (m := parName + i) (hp (parName + i) (by simp [parsOf]))
        simp only [takeO, run_get, hS1, hrow]
        exact run_bind_some.2 ⟨y', e2, rfl⟩

theorem takeO_put (h : ObjsR Mu S c) : ∀ (ks : List PK) (i : Nat) {k : Tk (DO ks)} (n : Nat), goodP ks = true → (takeO ks i).run S = some k → k.bor = [] → k.vars = [] →
    ∃ refs, (endO ks k.x i n).2.length = refs.length ∧ Keys n (endO ks k.x i n).2 ∧ Refs c k.own refs ∧ (endO ks k.x i n).1.map (·.1) = (parsOf ks i).map .obj ∧
      ∀ c', Moves c c' → Fits c c' k.own → Named c' n refs → (∀ m ∈ parsOf ks i, c'.ρ m = c.ρ m) → DOk c' n (endO ks k.x i n).2 ∧ ∀ q ∈ (endO ks k.x i n).1, ∀ m, q.1 = .obj m → ObjR c' q.2 (c'.ρ m)
  | [], i, k, n, _, hr, _, _ => by
      simp [takeO] at hr; subst hr
      exact ⟨[], rfl, .nil _, .nil c, rfl, fun c' _ _ _ _ => ⟨.nil _ _, by simp [endO]⟩⟩
  | .val t :: ks, i, k, n, hg, hr, hb, hv => by
      simp only [goodP, Bool.and_eq_true] at hg
      exact takeO_put h ks (i + 1) n hg.2 hr hb hv
  | .rptr t :: ks, i, k, n, hg, hr, hb, hv => by
      simp only [goodP, Bool.and_eq_true] at hg
      exact takeO_put h ks (i + 1) n hg.2 hr hb hv
  | .ptr t :: ks, i, k, n, hg, hr, hb, hv => by
      simp only [goodP, Bool.and_eq_true] at hg
      simp only [takeO, run_get] at hr
      obtain ⟨x, h1, hr⟩ := run_bind_some.1 hr
      obtain ⟨y, h2, hr⟩ := run_bind_some.1 hr
      obtain rfl : x.and y = k := Option.some.inj hr
      simp [Tk.and] at hb hv
      obtain ⟨u, hS, h1⟩ := takeObj_some h1
      have hob := h.obj (parName + i)
      rw [hS] at hob
      cases hρ : c.ρ (parName + i) <;> rw [hρ] at hob <;> try exact hob.elim
      rename_i b t'
      obtain ⟨rfl, _, hcu, cells, e, hbb, hcr⟩ := hob
      obtain ⟨v', d1, r1, e1, l1, k1, f1, m1⟩ := put_move h n hg.1 h1 hb.1 hv.1 hcr
      obtain ⟨r2, l2, k2, f2, p2, m2⟩ := takeO_put h ks (i + 1) (n + r1.length) hg.2 h2 hb.2 hv.2
      have hend : endO (.ptr t :: ks) (x.and y).x i n = ((.obj (parName + i), .obj t.plain v') :: (endO ks y.x (i + 1) (n + r1.length)).1, d1 ++ (endO ks y.x (i + 1) (n + r1.length)).2) := by
        show endO (.ptr t :: ks) (x.x, y.x) i n = _
        simp only [endO, e1]
      rw [hend]
      have hcv : conf t.plain v' = true := by
        have := conf_putV x.x n hg.1
        rw [e1] at this; exact this
      refine ⟨r1 ++ r2, by simp [l1, l2], k1.append (by rw [l1]; exact k2), f1.append f2, by simp [parsOf, p2], fun c' hm hf hn hp => ?_⟩
      obtain ⟨q1, q2⟩ := m1 c' hm (fun m hm' => hf m (by simp [Tk.and, hm'])) hn.left
      obtain ⟨q3, q4⟩ := m2 c' hm (fun m hm' => hf m (by simp [Tk.and, hm'])) hn.right (fun m hm' => hp m (by simp [parsOf, hm']))
      refine ⟨q2.append (by rw [l1]; exact q3), fun q hq m he => ?_⟩
      rcases List.mem_cons.1 hq with rfl | hq
      · cases he
        rw [hp _ (by simp [parsOf]), hρ]
        exact ⟨rfl, hg.1, hcv, cells, _, by rw [hm.w]; exact hbb, q1⟩
      · exact q4 q hq m he
  | .mut t :: ks, i, k, n, hg, hr, hb, hv => by
      simp only [goodP, Bool.and_eq_true] at hg
      simp only [takeO, run_get] at hr
      cases hrow : takeRow t (S (.obj (parName + i))) with
      | none => simp [hrow] at hr
      | some l =>
        simp only [hrow] at hr
        obtain ⟨y, h2, hr⟩ := run_bind_some.1 hr
        obtain rfl : Tk.and ⟨l, [], [], [], true⟩ y = k := Option.some.inj hr
        simp [Tk.and] at hb hv
        obtain ⟨f, hS⟩ := takeRow_some hrow
        obtain ⟨r2, l2, k2, f2, p2, m2⟩ := takeO_put h ks (i + 1) n hg.2 h2 hb hv
        have hend : endO (.mut t :: ks) (Tk.and ⟨l, [], [], [], true⟩ y).x i n = ((.obj (parName + i), .arrc false t l) :: (endO ks y.x (i + 1) n).1, (endO ks y.x (i + 1) n).2) := rfl
        rw [hend]
        refine ⟨r2, l2, k2, by simpa [Tk.and] using f2, by simp [parsOf, p2], fun c' hm hf hn hp => ?_⟩
        obtain ⟨q3, q4⟩ := m2 c' hm (by simpa [Tk.and] using hf) hn (fun m hm' => hp m (by simp [parsOf, hm']))
        refine ⟨q3, fun q hq m he => ?_⟩
        rcases List.mem_cons.1 hq with rfl | hq
        · cases he
          rw [hp _ (by simp [parsOf])]
          have hob := h.obj (parName + i)
          rw [hS] at hob
          cases hρ : c.ρ (parName + i) <;> rw [hρ] at hob <;> try exact hob.elim
          rename_i b t' len cap
          cases b with
          | none => exact hob
          | some b =>
            obtain ⟨rfl, w1, w2, w3, w4, w5, w6, cells, e, w7, w8, w9⟩ := hob
            refine ⟨rfl, w1, w2, w3, w4, w5, by simp, cells, e, by rw [hm.w]; exact w7, w8, ?_⟩
            exact (hm.repL w9).mono fun x cs hh => Rep.weaken (by simp) hh
        · exact q4 q hq m he

end
end Go.Eng
