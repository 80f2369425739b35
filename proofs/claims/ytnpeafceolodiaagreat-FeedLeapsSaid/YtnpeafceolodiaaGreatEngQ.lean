/- The engine, part Q: a loop's head. -/
import Derived.Test.YtnpeafceolodiaaGreatEngP
namespace Go.Eng
open Go.RowKit

theorem nat_beq (a b : Nat) : Nat.beq a b = decide (a = b) := by
  by_cases h : a = b
  · subst h; simp
  · simp only [h, decide_false]
    rw [Bool.eq_false_iff]
    exact fun e => h (Nat.eq_of_beq_eq_true e)

theorem unlike_nodup : ∀ {l : List Nat}, unlike l = true → l.Nodup
  | [], _ => List.nodup_nil
  | x :: l, h => by
      simp only [unlike, Bool.and_eq_true, List.all_eq_true] at h
      refine List.nodup_cons.2 ⟨fun hx => ?_, unlike_nodup h.2⟩
      have := h.1 x hx
      simp at this

/-- New objects in a state. -/
theorem apply_keys : ∀ (d : List (Loc × V)) (n : Nat) (S : St) (l : Loc), Keys n d → S.apply d l = match l with
    | .obj m => if n ≤ m ∧ m < n + d.length then (d[m - n]?.map (·.2)).getD .undef else S (.obj m)
    | .tmp t => S (.tmp t)
  | [], n, S, l, _ => by
      cases l with
      | tmp t => rfl
      | obj m =>
        simp only [apply_nil, List.length_nil, Nat.add_zero]
        rw [if_neg (by omega)]
  | (k, v) :: d, n, S, l, h => by
      have hk : k = .obj n := h 0 (k, v) rfl
      have h' : Keys (n + 1) d := fun i q hq => by
        have := h (i + 1) q (by simpa using hq)
        rw [this]; congr 1; omega
      subst hk
      rw [apply_cons]
      cases l with
      | tmp t => rw [St.set_other _ _ _ _ (by simp)]; exact apply_keys d (n + 1) S (.tmp t) h'
      | obj m =>
        by_cases e : m = n
        · subst e
          rw [St.set_same]
          simp
        · rw [St.set_other _ _ _ _ (by simpa using e), apply_keys d (n + 1) S (.obj m) h']
          simp only [List.length_cons]
          by_cases hm : n + 1 ≤ m ∧ m < n + 1 + d.length
          · rw [if_pos hm, if_pos (by omega)]
            rw [show m - n = (m - (n + 1)) + 1 by omega, List.getElem?_cons_succ]
          · rw [if_neg hm, if_neg (by omega)]

theorem putV_owns : ∀ {t : Ty} (x : t.den) (n : Nat), (putV t x n).2.1.length = t.owns
  | .unit, _, _ => rfl
  | .int _, _, _ => rfl
  | .bool, _, _ => rfl
  | .str, _, _ => rfl
  | .arr _ _, _, _ => rfl
  | .sl .ro _, _, _ => rfl
  | .sl .fr _, _, _ => rfl
  | .sl .own _, _, _ => rfl
  | .sl .ownx _, _, _ => rfl
  | .prod a b, x, n => by
      simp only [putV, Ty.owns, List.length_append]
      rw [putV_owns x.1 n, putV_owns x.2 _]
  | .opq, x, _ => nomatch x
  | .ifc, x, _ => nomatch x

section
variable {P : Program} {E : Env} {Mu : Nat → Prop} {nt : Nat} {S : St} {c : Cx} {a : Act}

theorem Puts.len {t : Ty} {x : t.den} {own : List Nat} {n : Nat} {cs : List Value} (h : Puts c t x own n cs) :
    ∃ v' d refs, putV t x n = (v', d, n + t.owns) ∧ d.length = t.owns ∧ refs.length = t.owns ∧ Keys n d ∧ Refs c own refs ∧ ∀ c', Moves c c' → Fits c c' own → Named c' n refs → CR c' v' cs ∧ DOk c' n d := by
  obtain ⟨v', d, refs, e, h1, h2, h3, h4⟩ := h
  have hd : d.length = t.owns := by
    have := putV_owns x n
    rw [e] at this; exact this
  exact ⟨v', d, refs, by rw [e, ← h1, hd], hd, by rw [← h1, hd], h2, h3, h4⟩

/-- The value of a temporary under new names. -/
theorem TR.again {t : Ty} {v v' : V} {x : Value} (hc : conf t v = true) (h : TR c v x) {c' : Cx} (hc' : conf t v' = true) (hr : CR c' v' x.cells.toList) : TR c' v' x := by
  obtain ⟨_, e⟩ := h.cells hc
  have := TR.of_cells hc' hr
  rw [e]
  simpa [List.getD_eq_getElem?_getD, Array.getD_eq_getD_getElem?] using this

theorem conf_plain : ∀ {t : Ty} {v : V}, conf t.plain v = conf t v
  | .unit, v => rfl
  | .int _, v => rfl
  | .bool, v => rfl
  | .str, v => rfl
  | .arr _ _, v => rfl
  | .sl _ _, v => by cases v <;> rfl
  | .prod a b, v => by
      cases v <;> try rfl
      rename_i vs
      cases vs with
      | nil => rfl
      | cons v vs => simp only [Ty.plain, conf, conf_plain (t := a), conf_plain (t := b)]
  | .opq, v => rfl
  | .ifc, v => rfl

def inNew (n k m : Nat) : Prop := n ≤ m ∧ m < n + k

theorem takeObj_some {t : Ty} {v : V} {k : Tk t.den} (h : (takeObj t v).run S = some k) : ∃ u, v = .obj t.plain u ∧ (takeV t u).run S = some k := by
  cases v <;> try (simp [takeObj] at h; done)
  simp only [takeObj] at h
  split at h
  · rename_i e; exact ⟨_, by rw [e], h⟩
  · simp at h
theorem takeRow_some {t : Ty} {v : V} {l : List t.den} (h : takeRow t v = some l) : ∃ f, v = .arrc f t l := by
  cases v <;> try (simp [takeRow] at h; done)
  simp only [takeRow] at h
  split at h
  · rename_i e; subst e; simp only [castL_rfl, Option.some.injEq] at h; subst h; exact ⟨_, rfl⟩
  · simp at h
theorem asEpt_some {f : Bool} {t : Ty} {v : V} {x : t.den} (h : asEpt f t v = some x) : ∃ f', v = .eptr f' t x ∧ (f = true → f' = true) := by
  cases v <;> try (simp [asEpt] at h; done)
  rename_i f' t' x'
  simp only [asEpt] at h
  split at h
  · rename_i e; subst e
    cases hf : (f' || !f) <;> simp only [hf, cond_true, cond_false, castD_rfl, Option.some.injEq, reduceCtorEq] at h
    subst h
    exact ⟨_, rfl, by cases f <;> cases f' <;> simp_all⟩
  · simp at h
theorem isPtr_some {m : Nat} {p : List Nat} {v : V} (h : isPtr m p v = true) : v = .ptr m p := by
  cases v <;> try (simp [isPtr] at h; done)
  simp [isPtr] at h
  rw [h.1, h.2]
theorem isOwn_some {m : Nat} {v : V} (h : isOwn m v = true) : v = .own m := by
  cases v <;> try (simp [isOwn] at h; done)
  simp [isOwn] at h
  rw [h]

/-- Slots that can be under new names. -/
def slotOk (keep : List Nat) : Slot → Prop
  | .tmp _ t | .obj _ t => t.plain.good = true
  | .fix _ m _ | .fixo _ m => m ∈ keep
  | _ => True

theorem head_ind (h : Rel Mu nt S c a) (keep : List Nat) : ∀ (ss : List Slot) (y : Tk (DS ss)) (n : Nat), (readS ss).run S = some y → y.bor = [] → y.vars = [] → (∀ s ∈ ss, slotOk keep s) → (∀ m ∈ keepS ss, m ∈ keep) →
    ∃ refs, Refs c y.own refs ∧ refs.length = ownsS ss ∧ ∀ c', Moves c c' → Fits c c' y.own → Named c' n refs → (∀ m ∈ keep, c'.ρ m = c.ρ m) → (∀ m ∈ keep, ¬ (n ≤ m ∧ m < n + ownsS ss)) → (keepS ss).Nodup →
      (∀ t, TR c' (mkS ss y.x n (.tmp t)) (a.tmps.getD t undef)) ∧
      (∀ m, (m ∈ keepS ss ∨ inNew n (ownsS ss) m) → ObjR c' (mkS ss y.x n (.obj m)) (c'.ρ m)) ∧ (∀ m, ¬ (m ∈ keepS ss ∨ inNew n (ownsS ss) m) → mkS ss y.x n (.obj m) = .undef)
  | [], y, n, hr, hb, hv, _, _ => by
      simp [readS] at hr; subst hr
      refine ⟨[], Refs.nil c, rfl, fun c' _ _ _ _ _ _ => ⟨fun t => trivial, fun m hm => ?_, fun m _ => rfl⟩⟩
      rcases hm with hm | hm
      · simp [keepS] at hm
      · simp [inNew, ownsS] at hm; omega
  | .tmp i t :: ss, y, n, hr, hb, hv, hg, hkp => by
      simp only [readS, run_get, run_bind_some] at hr
      obtain ⟨x, h1, z, h2, hr⟩ := hr
      obtain rfl : x.and z = y := Option.some.inj hr
      simp [Tk.and] at hb hv
      have hgt : t.plain.good = true := hg (.tmp i t) (by simp)
      have hcf := takeV_conf h1
      have hcr := (h.tmp i).cells hcf
      obtain ⟨v', d, r1, e1, l1, l1', k1, f1, m1⟩ := (put_move h.objs n hgt h1 hb.1 hv.1 hcr.1).len
      obtain ⟨r2, f2, l2, m2⟩ := head_ind h keep ss z (n + t.owns) h2 hb.2 hv.2 (fun s hs => hg s (by simp [hs])) hkp
      refine ⟨r1 ++ r2, f1.append f2, by simp [l1', l2, ownsS], fun c' hm hf hn hk hkn hnd => ?_⟩
      obtain ⟨p1, p2⟩ := m1 c' hm (fun m hm' => hf m (by simp [Tk.and, hm'])) hn.left
      obtain ⟨q1, q2, q3⟩ := m2 c' hm (fun m hm' => hf m (by simp [Tk.and, hm'])) (by rw [← l1']; exact hn.right) hk (fun m hm' hh => hkn m hm' ⟨by omega, by simp only [ownsS]; omega⟩) hnd
      have hms : mkS (.tmp i t :: ss) (Tk.and x z).x n = ((mkS ss z.x (n + t.owns)).apply d).set (.tmp i) v' := by
        simp only [mkS, Tk.and, e1]
      rw [hms]
      have hcv : conf t v' = true := by
        have := conf_putV x.x n hgt
        rw [e1, conf_plain] at this; exact this
      refine ⟨fun u => ?_, fun m hm' => ?_, fun m hm' => ?_⟩
      · by_cases e : u = i
        · subst e; rw [St.set_same]
          exact (h.tmp u).again hcf hcv p1
        · rw [St.set_other _ _ _ _ (by simpa using e), apply_keys d n _ _ k1]
          exact q1 u
      · rw [St.set_other _ _ _ _ (by simp), apply_keys d n _ _ k1]
        simp only [l1]
        by_cases hin : n ≤ m ∧ m < n + t.owns
        · rw [if_pos hin]
          have hlt : m - n < d.length := by omega
          have := p2 (m - n) d[m - n] (by simp [hlt])
          rw [show n + (m - n) = m by omega] at this
          simpa [hlt] using this
        · rw [if_neg hin]
          refine q2 m ?_
          rcases hm' with hm' | hm'
          · exact .inl hm'
          · right
            simp only [inNew, ownsS] at hm' ⊢
            omega
      · rw [St.set_other _ _ _ _ (by simp), apply_keys d n _ _ k1]
        simp only [l1]
        have hin : ¬ (n ≤ m ∧ m < n + t.owns) := fun hh => hm' (.inr (by simp only [inNew, ownsS]; omega))
        rw [if_neg hin]
        refine q3 m fun hh => hm' ?_
        rcases hh with hh | hh
        · exact .inl hh
        · right; simp only [inNew, ownsS] at hh ⊢; omega
  | .ept i f t :: ss, y, n, hr, hb, hv, hg, hkp => by
      simp only [readS, run_get] at hr
      cases he : asEpt f t (S (.tmp i)) with
      | none => simp [he] at hr
      | some x =>
        simp only [he, run_bind_some] at hr
        obtain ⟨z, h2, hr⟩ := hr
        obtain rfl : Tk.and ⟨x, [], [], [], true⟩ z = y := Option.some.inj hr
        obtain ⟨f', hS, hff⟩ := asEpt_some he
        simp [Tk.and] at hb hv
        obtain ⟨r2, f2, l2, m2⟩ := head_ind h keep ss z n h2 hb hv (fun s hs => hg s (by simp [hs])) hkp
        refine ⟨r2, by simpa [Tk.and] using f2, l2, fun c' hm hf hn hk hkn hnd => ?_⟩
        obtain ⟨q1, q2, q3⟩ := m2 c' hm (by simpa [Tk.and] using hf) hn hk hkn hnd
        refine ⟨fun u => ?_, fun m hm' => ?_, fun m hm' => ?_⟩
        · show TR c' (((mkS ss z.x n).set (.tmp i) (.eptr f t x)) (.tmp u)) _
          by_cases e : u = i
          · subst e; rw [St.set_same]
            have := h.tmp u
            rw [hS] at this
            obtain ⟨b, o, es, e, q4, q5⟩ := this.eptr
            rw [e]
            simp only [TR, TR1, CR]
            refine ⟨b, o, es, rfl, hm.rep (Rep.weaken hff q4), ?_⟩
            rw [hm.w]
            intro j u hj
            obtain ⟨⟨w1, w2⟩, w3⟩ := q5 j u hj
            exact ⟨⟨(hm.rn b _ w1).1, fun hff' => (hm.rn b _ w1).2 (w2 (hff hff'))⟩, w3⟩
          · rw [St.set_other _ _ _ _ (by simpa using e)]; exact q1 u
        · show ObjR c' (((mkS ss z.x n).set (.tmp i) (.eptr f t x)) (.obj m)) _
          rw [St.set_other _ _ _ _ (by simp)]; exact q2 m hm'
        · show ((mkS ss z.x n).set (.tmp i) (.eptr f t x)) (.obj m) = _
          rw [St.set_other _ _ _ _ (by simp)]; exact q3 m hm'
  | .fix i k p :: ss, y, n, hr, hb, hv, hg, hkp => by
      simp only [readS, run_get] at hr
      obtain ⟨he, hr⟩ := run_guard_some.1 hr
      have hS := isPtr_some he
      obtain ⟨r2, f2, l2, m2⟩ := head_ind h keep ss y n hr hb hv (fun s hs => hg s (by simp [hs])) hkp
      refine ⟨r2, f2, l2, fun c' hm hf hn hk hkn hnd => ?_⟩
      obtain ⟨q1, q2, q3⟩ := m2 c' hm hf hn hk hkn hnd
      refine ⟨fun u => ?_, fun m hm' => ?_, fun m hm' => ?_⟩
      · show TR c' (((mkS ss y.x n).set (.tmp i) (.ptr k p)) (.tmp u)) _
        by_cases e : u = i
        · subst e; rw [St.set_same]
          have := h.tmp u
          rw [hS] at this
          have hp := this.ptr
          rw [← hk k (hg (.fix u k p) (by simp))] at hp
          simp only [TR, TR1, CR]
          exact ⟨_, rfl, hp⟩
        · rw [St.set_other _ _ _ _ (by simpa using e)]; exact q1 u
      · show ObjR c' (((mkS ss y.x n).set (.tmp i) (.ptr k p)) (.obj m)) _
        rw [St.set_other _ _ _ _ (by simp)]; exact q2 m hm'
      · show ((mkS ss y.x n).set (.tmp i) (.ptr k p)) (.obj m) = _
        rw [St.set_other _ _ _ _ (by simp)]; exact q3 m hm'
  | .fixo i k :: ss, y, n, hr, hb, hv, hg, hkp => by
      simp only [readS, run_get] at hr
      obtain ⟨he, hr⟩ := run_guard_some.1 hr
      have hS := isOwn_some he
      obtain ⟨r2, f2, l2, m2⟩ := head_ind h keep ss y n hr hb hv (fun s hs => hg s (by simp [hs])) hkp
      refine ⟨r2, f2, l2, fun c' hm hf hn hk hkn hnd => ?_⟩
      obtain ⟨q1, q2, q3⟩ := m2 c' hm hf hn hk hkn hnd
      refine ⟨fun u => ?_, fun m hm' => ?_, fun m hm' => ?_⟩
      · show TR c' (((mkS ss y.x n).set (.tmp i) (.own k)) (.tmp u)) _
        by_cases e : u = i
        · subst e; rw [St.set_same]
          have := h.tmp u
          rw [hS] at this
          have hp := this.own
          rw [← hk k (hg (.fixo u k) (by simp))] at hp
          simp only [TR, TR1, CR]
          exact ⟨_, rfl, hp⟩
        · rw [St.set_other _ _ _ _ (by simpa using e)]; exact q1 u
      · show ObjR c' (((mkS ss y.x n).set (.tmp i) (.own k)) (.obj m)) _
        rw [St.set_other _ _ _ _ (by simp)]; exact q2 m hm'
      · show ((mkS ss y.x n).set (.tmp i) (.own k)) (.obj m) = _
        rw [St.set_other _ _ _ _ (by simp)]; exact q3 m hm'
  | .obj k t :: ss, y, n, hr, hb, hv, hg, hkp => by
      simp only [readS, run_get, run_bind_some] at hr
      obtain ⟨x, h1, z, h2, hr⟩ := hr
      obtain rfl : x.and z = y := Option.some.inj hr
      simp [Tk.and] at hb hv
      have hgt : t.plain.good = true := hg (.obj k t) (by simp)
      obtain ⟨u, hS, h1⟩ := takeObj_some h1
      have hob := h.objs.obj k
      rw [hS] at hob
      cases hρ : c.ρ k <;> rw [hρ] at hob <;> try exact hob.elim
      rename_i b t'
      obtain ⟨rfl, _, hcu, cells, e, hbb, hcr⟩ := hob
      obtain ⟨v', d, r1, e1, l1, l1', k1, f1, m1⟩ := (put_move h.objs n hgt h1 hb.1 hv.1 hcr).len
      obtain ⟨r2, f2, l2, m2⟩ := head_ind h keep ss z (n + t.owns) h2 hb.2 hv.2 (fun s hs => hg s (by simp [hs])) (fun m hm => hkp m (by simp [keepS, hm]))
      refine ⟨r1 ++ r2, f1.append f2, by simp [l1', l2, ownsS], fun c' hm hf hn hk hkn hnd => ?_⟩
      obtain ⟨p1, p2⟩ := m1 c' hm (fun m hm' => hf m (by simp [Tk.and, hm'])) hn.left
      have hnd' : k ∉ keepS ss ∧ (keepS ss).Nodup := List.nodup_cons.1 hnd
      obtain ⟨q1, q2, q3⟩ := m2 c' hm (fun m hm' => hf m (by simp [Tk.and, hm'])) (by rw [← l1']; exact hn.right) hk (fun m hm' hh => hkn m hm' ⟨by omega, by simp only [ownsS]; omega⟩) hnd'.2
      have hms : mkS (.obj k t :: ss) (Tk.and x z).x n = ((mkS ss z.x (n + t.owns)).apply d).set (.obj k) (.obj t.plain v') := by
        simp only [mkS, Tk.and, e1]
      rw [hms]
      have hcv : conf t.plain v' = true := by
        have := conf_putV x.x n hgt
        rw [e1] at this; exact this
      have hkk : k ∈ keep := hkp k (by simp [keepS])
      refine ⟨fun u => ?_, fun m hm' => ?_, fun m hm' => ?_⟩
      · rw [St.set_other _ _ _ _ (by simp), apply_keys d n _ _ k1]
        exact q1 u
      · by_cases e : m = k
        · subst e
          rw [St.set_same, hk m hkk, hρ]
          exact ⟨rfl, hgt, hcv, cells, _, by rw [hm.w]; exact hbb, p1⟩
        · rw [St.set_other _ _ _ _ (by simpa using e), apply_keys d n _ _ k1]
          simp only [l1]
          by_cases hin : n ≤ m ∧ m < n + t.owns
          · rw [if_pos hin]
            have hlt : m - n < d.length := by omega
            have := p2 (m - n) d[m - n] (by simp [hlt])
            rw [show n + (m - n) = m by omega] at this
            simpa [hlt] using this
          · rw [if_neg hin]
            refine q2 m ?_
            rcases hm' with hm' | hm'
            · simp only [keepS, List.mem_cons] at hm'
              exact .inl (hm'.resolve_left e)
            · right
              simp only [inNew, ownsS] at hm' ⊢
              omega
      · have e : m ≠ k := by rintro rfl; exact hm' (.inl (by simp [keepS]))
        rw [St.set_other _ _ _ _ (by simpa using e), apply_keys d n _ _ k1]
        simp only [l1]
        have hin : ¬ (n ≤ m ∧ m < n + t.owns) := fun hh => hm' (.inr (by simp only [inNew, ownsS]; omega))
        rw [if_neg hin]
        refine q3 m fun hh => hm' ?_
        rcases hh with hh | hh
        · exact .inl (by simp [keepS, hh])
        · right; simp only [inNew, ownsS] at hh ⊢; omega
  | .row k t :: ss, y, n, hr, hb, hv, hg, hkp => by
      simp only [readS, run_get] at hr
      cases he : takeRow t (S (.obj k)) with
      | none => simp [he] at hr
      | some l =>
        simp only [he, run_bind_some] at hr
        obtain ⟨z, h2, hr⟩ := hr
        obtain rfl : Tk.and ⟨l, [], [], [], true⟩ z = y := Option.some.inj hr
        obtain ⟨f, hS⟩ := takeRow_some he
        simp [Tk.and] at hb hv
        obtain ⟨r2, f2, l2, m2⟩ := head_ind h keep ss z n h2 hb hv (fun s hs => hg s (by simp [hs])) (fun m hm => hkp m (by simp [keepS, hm]))
        refine ⟨r2, by simpa [Tk.and] using f2, l2, fun c' hm hf hn hk hkn hnd => ?_⟩
        have hnd' : k ∉ keepS ss ∧ (keepS ss).Nodup := List.nodup_cons.1 hnd
        obtain ⟨q1, q2, q3⟩ := m2 c' hm (by simpa [Tk.and] using hf) hn hk hkn hnd'.2
        have hkk : k ∈ keep := hkp k (by simp [keepS])
        refine ⟨fun u => ?_, fun m hm' => ?_, fun m hm' => ?_⟩
        · show TR c' (((mkS ss z.x n).set (.obj k) (.arrc false t l)) (.tmp u)) _
          rw [St.set_other _ _ _ _ (by simp)]; exact q1 u
        · show ObjR c' (((mkS ss z.x n).set (.obj k) (.arrc false t l)) (.obj m)) _
          by_cases e : m = k
          · subst e
            rw [St.set_same, hk m hkk]
            have hob := h.objs.obj m
            rw [hS] at hob
            cases hρ : c.ρ m <;> rw [hρ] at hob <;> try exact hob.elim
            rename_i b t' len cap
            cases b with
            | none => exact hob
            | some b =>
              obtain ⟨rfl, w1, w2, w3, w4, w5, w6, cells, e, w7, w8, w9⟩ := hob
              refine ⟨rfl, w1, w2, w3, w4, w5, by simp, cells, e, by rw [hm.w]; exact w7, w8, ?_⟩
              exact (hm.repL w9).mono fun x cs hh => Rep.weaken (by simp) hh
          · rw [St.set_other _ _ _ _ (by simpa using e)]
            refine q2 m (hm'.imp (fun hm' => ?_) id)
            simp only [keepS, List.mem_cons] at hm'
            exact hm'.resolve_left e
        · have e : m ≠ k := by rintro rfl; exact hm' (.inl (by simp [keepS]))
          show ((mkS ss z.x n).set (.obj k) (.arrc false t l)) (.obj m) = _
          rw [St.set_other _ _ _ _ (by simpa using e)]
          exact q3 m fun hh => hm' (hh.imp (fun hh => by simp [keepS, hh]) id)

end
end Go.Eng
