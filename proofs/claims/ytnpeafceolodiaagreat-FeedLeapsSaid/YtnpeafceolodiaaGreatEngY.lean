/- The engine, part Y: calls, what comes back. -/
import Derived.Test.YtnpeafceolodiaaGreatEngX
namespace Go.Eng
open Go.RowKit

def parRef (c : Cx) : List Nat → List Nat → Nat → Option Ref
  | p :: ps, q :: qs, m => if m = p then some (c.ρ q) else parRef c ps qs m
  | _, _, _ => none

theorem parRef_get {c : Cx} : ∀ {pars pls : List Nat} {j m p : Nat}, pars.Nodup → pars[j]? = some m → pls[j]? = some p → parRef c pars pls m = some (c.ρ p)
  | [], _, _, _, _, _, h, _ => by simp at h
  | _ :: _, [], _, _, _, _, _, h => by simp at h
  | a :: pars, q :: pls, 0, m, p, _, h1, h2 => by simp at h1 h2; simp [parRef, h1, h2]
  | a :: pars, q :: pls, j + 1, m, p, hn, h1, h2 => by
      simp at h1 h2
      have hne : m ≠ a := by
        rintro rfl
        exact (List.nodup_cons.1 hn).1 (List.mem_of_getElem? h1)
      simp only [parRef, if_neg hne]
      exact parRef_get (List.nodup_cons.1 hn).2 h1 h2

theorem parRef_some {c : Cx} : ∀ {pars pls : List Nat} {m : Nat} {r : Ref}, parRef c pars pls m = some r → ∃ j p : Nat, pars[j]? = some m ∧ pls[j]? = some p ∧ r = c.ρ p
  | [], _, _, _, h => by simp [parRef] at h
  | _ :: _, [], _, _, h => by simp [parRef] at h
  | a :: pars, q :: pls, m, r, h => by
      simp only [parRef] at h
      split at h
      · rename_i e; subst e
        exact ⟨0, q, rfl, rfl, (Option.some.inj h).symm⟩
      · obtain ⟨j, p, h1, h2, h3⟩ := parRef_some h
        exact ⟨j + 1, p, by simpa using h1, by simpa using h2, h3⟩

theorem parRef_none {c : Cx} {pars pls : List Nat} {m : Nat} (h : m ∉ pars) : parRef c pars pls m = none := by
  cases e : parRef c pars pls m with
  | none => rfl
  | some r =>
    obtain ⟨j, p, h1, _⟩ := parRef_some e
    exact (h (List.mem_of_getElem? h1)).elim

def calleeRef (c : Cx) (pars pls : List Nat) (n : Nat) (refs : List Ref) (m : Nat) : Ref :=
  match parRef c pars pls m with
  | some r => r
  | none => if n ≤ m ∧ m < n + refs.length then refs.getD (m - n) .none else .none

def calleeCx (c : Cx) (L pars pls : List Nat) (n : Nat) (refs : List Ref) : Cx :=
  { ρ := calleeRef c pars pls n refs, R := fun b o => c.R b o ∨ lent c L b, w := c.w, N := fun b => c.N b ∧ ¬ lent c L b }

def calleeMu (c : Cx) (names : List Nat) (b : Nat) : Prop := c.w.heap.size ≤ b ∨ lent c names b

section
variable {P : Program} {E : Env} {Mu : Nat → Prop} {nt : Nat} {S : St} {c c' c'' : Cx} {a : Act} {g : Bool}

theorem calleeRef_new {pars pls : List Nat} {n : Nat} {refs : List Ref} (hp : ∀ m ∈ pars, ¬ (n ≤ m ∧ m < n + refs.length)) {i : Nat} {r : Ref} (hr : refs[i]? = some r) : calleeRef c pars pls n refs (n + i) = r := by
  have hi := (List.getElem?_eq_some_iff.1 hr).1
  unfold calleeRef
  rw [parRef_none (fun hh => hp _ hh ⟨by omega, by omega⟩)]
  simp only
  rw [if_pos ⟨by omega, by omega⟩]
  simp [hr]

theorem calleeRef_out {pars pls : List Nat} {n : Nat} {refs : List Ref} {m : Nat} (h : ¬ (m ∈ pars ∨ inNew n refs.length m)) : calleeRef c pars pls n refs m = .none := by
  unfold calleeRef
  rw [parRef_none (fun hh => h (.inl hh))]
  simp only
  rw [if_neg (fun (hh : n ≤ m ∧ m < n + refs.length) => h (.inr hh))]

/-- The callee's objects. -/
theorem callee_objs (h : ObjsR Mu S c) {own pls L pars : List Nat} {n : Nat} {refs : List Ref} (hrf : Refs c own refs) (hnd : (own ++ pls).Nodup) (hL : ∀ m ∈ L, m ∉ own ++ pls) (hlen : pars.length = pls.length) (hpn : pars.Nodup)
    (hp : ∀ m ∈ pars, ¬ (n ≤ m ∧ m < n + refs.length)) (hpar : ∀ m ∈ pars, parName ≤ m) (hn : parName ≤ n) {S' : St}
    (hin : ∀ m, (m ∈ pars ∨ inNew n refs.length m) → ObjR (calleeCx c L pars pls n refs) (S' (.obj m)) ((calleeCx c L pars pls n refs).ρ m)) (hout : ∀ m, ¬ (m ∈ pars ∨ inNew n refs.length m) → S' (.obj m) = .undef) :
    ObjsR (calleeMu c (own ++ pls)) S' (calleeCx c L pars pls n refs) := by
  have hdis := List.nodup_append.1 hnd
  have cases' : ∀ m b, ((calleeCx c L pars pls n refs).ρ m).blk = some b → (∃ j p : Nat, pars[j]? = some m ∧ pls[j]? = some p ∧ (c.ρ p).blk = some b) ∨ (∃ i r, m = n + i ∧ refs[i]? = some r ∧ r.blk = some b ∧ ∃ k ∈ own, (c.ρ k).blk = some b) := by
    intro m b hb
    simp only [calleeCx, calleeRef] at hb
    split at hb
    · rename_i r hr
      obtain ⟨j, p, h1, h2, rfl⟩ := parRef_some hr
      exact .inl ⟨j, p, h1, h2, hb⟩
    · split at hb
      · rename_i hin
        right
        have hlt : m - n < refs.length := by omega
        have hr : refs[m - n]? = some refs[m - n] := by simp [hlt]
        have hb : (refs[m - n]).blk = some b := by simpa [hlt] using hb
        obtain ⟨k, hk1, hk2⟩ := hrf.blk hr hb
        exact ⟨m - n, _, by omega, hr, hb, k, hk1, hk2⟩
      · simp [Ref.blk] at hb
  have src : ∀ m b, ((calleeCx c L pars pls n refs).ρ m).blk = some b → ∃ k ∈ own ++ pls, (c.ρ k).blk = some b := by
    intro m b hb
    rcases cases' m b hb with ⟨j, p, _, h2, h3⟩ | ⟨_, _, _, _, _, k, h1, h2⟩
    · exact ⟨p, List.mem_append.2 (.inr (List.mem_of_getElem? h2)), h3⟩
    · exact ⟨k, List.mem_append.2 (.inl h1), h2⟩
  have nolent : ∀ b, lent c (own ++ pls) b → ¬ lent c L b := by
    rintro b ⟨k, hk, hb⟩ ⟨m, hm, hb'⟩
    exact hL m hm (h.apart m k b hb' hb ▸ hk)
  exact {
    obj := fun m => by
      by_cases hm : m ∈ pars ∨ inNew n refs.length m
      · exact hin m hm
      · rw [hout m hm]
        have : (calleeCx c L pars pls n refs).ρ m = .none := calleeRef_out hm
        rw [this]; trivial
    apart := fun m m' b h1 h2 => by
      rcases cases' m b h1 with ⟨j, p, p1, p2, p3⟩ | ⟨i, r, e1, r1, b1, k, ko, kb⟩ <;> rcases cases' m' b h2 with ⟨j', p', p1', p2', p3'⟩ | ⟨i', r', e1', r1', b1', k', ko', kb'⟩
      · have := h.apart p p' b p3 p3'
        subst this
        have := getElem_nodup hdis.2.1 p2 p2'
        subst this
        rw [p1] at p1'; exact Option.some.inj p1'
      · have := h.apart p k' b p3 kb'
        subst this
        exact (hdis.2.2 p ko' p (List.mem_of_getElem? p2) rfl).elim
      · have := h.apart p' k b p3' kb
        subst this
        exact (hdis.2.2 p' ko p' (List.mem_of_getElem? p2') rfl).elim
      · have hnn : (refs.filterMap Ref.blk).Nodup := by rw [hrf.1]; exact ownBlocks_nodup h hdis.1
        have := filterMap_nodup_get hnn r1 r1' b1 b1'
        omega
    free := fun m b hb => by
      have hs := src m b hb
      refine ⟨.inr hs, fun o hr => ?_⟩
      rcases hr with hr | hr
      · obtain ⟨k, _, hk⟩ := hs
        exact (h.free k b hk).2 o hr
      · exact nolent b hs hr
    new := fun m b t hm hlt => by
      exfalso
      by_cases hh : m ∈ pars ∨ inNew n refs.length m
      · rcases hh with hh | hh
        · have := hpar m hh; omega
        · have := hh.1; omega
      · have : (calleeCx c L pars pls n refs).ρ m = .none := calleeRef_out hh
        rw [this] at hm; cases hm
    base := fun b hb => ⟨h.base b hb, fun ⟨m, _, hm⟩ => by have := h.blk_lt hm; simp only [calleeCx] at hb; omega⟩
    rlt := fun b o hr => by
      rcases hr with hr | ⟨m, _, hm⟩
      · exact h.rlt b o hr
      · exact h.blk_lt hm }

/-- From a callee's last context to its caller's. -/
structure Tr (c' c'' : Cx) (g : Bool) : Prop where
  w : c''.w = c'.w
  new : ∀ b o, c'.R b o → c'.N b → c''.R b o
  nn : ∀ b, c'.N b → c''.N b
  all : g = true → ∀ b o, c'.R b o → c''.R b o

theorem Tr.rep (h : Tr c' c'' g) {f : Bool} {t : Ty} {x : t.den} {cs : List Value} (hf : f = true ∨ g = true) (hr : Rep (c'.Rf f) c'.w t x cs) : Rep (c''.Rf f) c''.w t x cs := by
  rw [h.w]
  refine Rep.later (fun b o hr => ⟨?_, fun e => h.nn b (hr.2 e)⟩) (fun _ _ _ _ hc => hc) t x cs hr
  rcases hf with hf | hf
  · exact h.new b o hr.1 (hr.2 hf)
  · exact h.all hf b o hr.1

theorem flat_rep {R R' : Nat → Nat → Prop} {w w' : World} : ∀ {t : Ty} {x : t.den} {cs : List Value}, t.flat = true → Rep R w t x cs → Rep R' w' t x cs
  | .unit, _, _, _, h => h
  | .int _, _, _, _, h => h
  | .bool, _, _, _, h => h
  | .str, _, _, _, h => h
  | .arr _ _, _, _, _, h => h
  | .sl _ _, _, _, hf, _ => by simp [Ty.flat] at hf
  | .prod a b, x, cs, hf, ⟨c1, c2, e, h1, h2⟩ => by
      simp only [Ty.flat, Bool.and_eq_true] at hf
      exact ⟨c1, c2, e, flat_rep hf.1 h1, flat_rep hf.2 h2⟩
  | .opq, x, _, _, _ => nomatch x
  | .ifc, x, _, _, _ => nomatch x

theorem Tr.row (h : Tr c' c'' g) {f : Bool} {t : Ty} {l : List t.den} {r : Ref} (hf : f = true ∨ g = true) (ho : ObjR c' (.arrc f t l) r) : ObjR c'' (.arrc f t l) r := by
  cases r <;> try exact ho.elim
  rename_i b t' len cap
  cases b with
  | none => exact ho
  | some b =>
    obtain ⟨rfl, q1, q2, q3, q4, q5, q6, cells, e, q7, q8, q9⟩ := ho
    exact ⟨rfl, q1, q2, q3, q4, q5, fun e => h.nn b (q6 e), cells, e, by rw [h.w]; exact q7, q8, q9.mono fun x cs hh => h.rep hf hh⟩

/-- A row that a call has written: as new as it was, where it leads nowhere. -/
theorem Tr.row' (h : Tr c' c'' g) {f : Bool} {t : Ty} {l : List t.den} {r : Ref} (hg : t.flat = true ∨ g = true) (hN : f = true → ∀ b, r.blk = some b → c''.N b) (ho : ObjR c' (.arrc false t l) r) : ObjR c'' (.arrc (f && t.flat) t l) r := by
  cases r <;> try exact ho.elim
  rename_i b t' len cap
  cases b with
  | none => exact ho
  | some b =>
    obtain ⟨rfl, q1, q2, q3, q4, q5, q6, cells, e, q7, q8, q9⟩ := ho
    refine ⟨rfl, q1, q2, q3, q4, q5, fun e => hN (by simp at e; exact e.1) b rfl, cells, e, by rw [h.w]; exact q7, q8, q9.mono fun x cs hh => ?_⟩
    cases hfl : t'.flat with
    | true => exact flat_rep hfl hh
    | false =>
      simp only [Bool.and_false]
      exact h.rep (.inr (hg.resolve_left (by simp [hfl]))) hh

theorem consN_inv {c : Cx} {v u : V} {cs : List Value} (h : CR c (consN v u) cs) : ∃ c1 c2, cs = c1 ++ c2 ∧ CR c v c1 ∧ CR c u c2 := by
  by_cases hu : ∃ vs, u = .node vs
  · obtain ⟨vs, rfl⟩ := hu
    simp only [consN, CR, CRs] at h ⊢
    exact h
  · have : consN v u = .node [v, u] := by
      cases u <;> first | rfl | exact (hu ⟨_, rfl⟩).elim
    rw [this] at h
    simp only [CR, CRs] at h
    obtain ⟨c1, c2, e, h1, c3, c4, e2, h2, h3⟩ := h
    subst h3 e2
    exact ⟨c1, c3, by simpa using e, h1, h2⟩

theorem Tr.putV (h : Tr c' c'' g) : ∀ {t : Ty} (x : t.den) (n : Nat) (cs : List Value), (t.roish = false ∨ g = true) → (∀ i, i < t.owns → c''.ρ (n + i) = c'.ρ (n + i)) → CR c' (Eng.putV t x n).1 cs → CR c'' (Eng.putV t x n).1 cs
  | .unit, _, _, _, _, _, hc => by simpa [Eng.putV, CR, CRs] using hc
  | .int _, _, _, _, _, _, hc => by simpa [Eng.putV, CR] using hc
  | .bool, _, _, _, _, _, hc => by simpa [Eng.putV, CR] using hc
  | .str, _, _, _, _, _, hc => by simpa [Eng.putV, CR] using hc
  | .arr _ _, _, _, _, _, _, hc => by simpa [Eng.putV, CR] using hc
  | .sl .ro t, x, n, cs, hg, _, hc => by
      simp only [Eng.putV, CR] at hc ⊢
      exact h.rep (.inr (hg.resolve_left (by simp [Ty.roish]))) hc
  | .sl .fr t, x, n, cs, hg, _, hc => by
      simp only [Eng.putV, CR] at hc ⊢
      exact h.rep (.inl rfl) hc
  | .sl .own t, x, n, cs, hg, hr, hc => by
      simp only [Eng.putV, CR] at hc ⊢
      have := hr 0 (by simp [Ty.owns])
      simp only [Nat.add_zero] at this
      rw [this]; exact hc
  | .sl .ownx t, x, n, cs, hg, hr, hc => by
      simp only [Eng.putV, CR] at hc ⊢
      have := hr 0 (by simp [Ty.owns])
      simp only [Nat.add_zero] at this
      rw [this]; exact hc
  | .prod a b, x, n, cs, hg, hr, hc => by
      simp only [Eng.putV] at hc ⊢
      obtain ⟨c1, c2, rfl, h1, h2⟩ := consN_inv hc
      have hga : a.roish = false ∨ g = true := hg.imp (fun e => by simp [Ty.roish] at e; exact e.1) id
      have hgb : b.roish = false ∨ g = true := hg.imp (fun e => by simp [Ty.roish] at e; exact e.2) id
      simp only [Ty.owns] at hr
      refine consN_cells _ _ _ _ (Tr.putV h x.1 n c1 hga (fun i hi => hr i (by omega)) h1) (Tr.putV h x.2 _ c2 hgb (fun i hi => ?_) h2)
      rw [(putV_keys x.1 n).2]
      have := hr (a.owns + i) (by omega)
      rwa [← Nat.add_assoc] at this
  | .opq, x, _, _, _, _, _ => nomatch x
  | .ifc, x, _, _, _, _, _ => nomatch x

theorem DOk.left {n : Nat} {d e : List (Loc × V)} (h : DOk c n (d ++ e)) : DOk c n d := fun i q hq => h i q (by rw [List.getElem?_append_left (List.getElem?_eq_some_iff.1 hq).1]; exact hq)
theorem DOk.right {n : Nat} {d e : List (Loc × V)} (h : DOk c n (d ++ e)) : DOk c (n + d.length) e := fun i q hq => by
  have := h (d.length + i) q (by rw [List.getElem?_append_right (by omega)]; simpa using hq)
  rwa [← Nat.add_assoc] at this
theorem DOk.tail {n : Nat} {q : Loc × V} {e : List (Loc × V)} (h : DOk c n (q :: e)) : DOk c (n + 1) e := fun i p hp => by
  have := h (i + 1) p (by simpa using hp)
  rwa [show n + (i + 1) = n + 1 + i by omega] at this
theorem DOk.cons {n : Nat} {q : Loc × V} {e : List (Loc × V)} (h0 : ObjR c q.2 (c.ρ n)) (h : DOk c (n + 1) e) : DOk c n (q :: e) := fun i p hp => by
  cases i with
  | zero => simp at hp; subst hp; exact h0
  | succ i =>
    have := h i p (by simpa using hp)
    rwa [show n + (i + 1) = n + 1 + i by omega]

theorem Tr.putVd (h : Tr c' c'' g) : ∀ {t : Ty} (x : t.den) (n : Nat), (t.roish = false ∨ g = true) → (∀ i, i < t.owns → c''.ρ (n + i) = c'.ρ (n + i)) → DOk c' n (Eng.putV t x n).2.1 → DOk c'' n (Eng.putV t x n).2.1
  | .unit, _, n, _, _, _ => .nil _ n
  | .int _, _, n, _, _, _ => .nil _ n
  | .bool, _, n, _, _, _ => .nil _ n
  | .str, _, n, _, _, _ => .nil _ n
  | .arr _ _, _, n, _, _, _ => .nil _ n
  | .sl .ro _, _, n, _, _, _ => .nil _ n
  | .sl .fr _, _, n, _, _, _ => .nil _ n
  | .sl .own t, x, n, hg, hr, hd => by
      have e := hr 0 (by simp [Ty.owns])
      simp only [Nat.add_zero] at e
      refine DOk.cons ?_ (.nil _ _)
      rw [e]
      exact h.row (.inl rfl) (hd 0 _ rfl)
  | .sl .ownx t, x, n, hg, hr, hd => by
      have e := hr 0 (by simp [Ty.owns])
      simp only [Nat.add_zero] at e
      refine DOk.cons ?_ (.nil _ _)
      rw [e]
      exact h.row (.inr (hg.resolve_left (by simp [Ty.roish]))) (hd 0 _ rfl)
  | .prod a b, x, n, hg, hr, hd => by
      simp only [Eng.putV] at hd ⊢
      have hga : a.roish = false ∨ g = true := hg.imp (fun e => by simp [Ty.roish] at e; exact e.1) id
      have hgb : b.roish = false ∨ g = true := hg.imp (fun e => by simp [Ty.roish] at e; exact e.2) id
      simp only [Ty.owns] at hr
      have hk := putV_keys x.1 n
      have hl := putV_owns x.1 n
      refine (Tr.putVd h x.1 n hga (fun i hi => hr i (by omega)) hd.left).append ?_
      have hd2 := hd.right
      rw [hk.2] at hd2 ⊢
      rw [hl] at hd2 ⊢
      refine Tr.putVd h x.2 _ hgb (fun i hi => ?_) hd2
      have := hr (a.owns + i) (by omega)
      rwa [← Nat.add_assoc] at this
  | .opq, x, _, _, _, _ => nomatch x
  | .ifc, x, _, _, _, _ => nomatch x

theorem fresh_roish : ∀ {t : Ty}, t.fresh = true → t.roish = false
  | .unit, _ => rfl
  | .int _, _ => rfl
  | .bool, _ => rfl
  | .str, _ => rfl
  | .arr _ _, _ => rfl
  | .sl .ro _, h => by simp [Ty.fresh] at h
  | .sl .fr _, _ => rfl
  | .sl .own _, _ => rfl
  | .sl .ownx _, h => by simp [Ty.fresh] at h
  | .prod a b, h => by
      simp only [Ty.fresh, Bool.and_eq_true] at h
      simp [Ty.roish, fresh_roish h.1, fresh_roish h.2]
  | .opq, _ => rfl
  | .ifc, _ => rfl

theorem Tr.putR (h : Tr c' c'' g) : ∀ (rs : List RK) (r : DR rs) (n : Nat) {us : List V} {d : List (Loc × V)}, (freshR rs = true ∨ g = true) → putR rs r n = some (us, d) → (∀ i, i < d.length → c''.ρ (n + i) = c'.ρ (n + i)) →
    Keys n d ∧ (∀ v ∈ us, ∀ cs, CR c' v cs → CR c'' v cs) ∧ (DOk c' n d → DOk c'' n d)
  | [], _, n, us, d, _, hp, _ => by
      simp [Eng.putR] at hp
      obtain ⟨rfl, rfl⟩ := hp
      exact ⟨.nil _, by simp, fun _ => .nil _ _⟩
  | .val t :: rs, r, n, us, d, hf, hp, hr => by
      have hf1 : t.roish = false ∨ g = true := hf.imp (fun e => by simp only [freshR, Bool.and_eq_true] at e; exact fresh_roish e.1) id
      have hf2 : freshR rs = true ∨ g = true := hf.imp (fun e => by simp only [freshR, Bool.and_eq_true] at e; exact e.2) id
      have hp : (Eng.putR rs r.2 (Eng.putV t r.1 n).2.2).map (fun q => ((Eng.putV t r.1 n).1 :: q.1, (Eng.putV t r.1 n).2.1 ++ q.2)) = some (us, d) := hp
      have hk := putV_keys (t := t) r.1 n
      have hl := putV_owns (t := t) r.1 n
      cases hq : Eng.putR rs r.2 (Eng.putV t r.1 n).2.2 with
      | none => simp [hq] at hp
      | some q =>
        simp [hq] at hp
        obtain ⟨rfl, rfl⟩ := hp
        simp only [List.length_append] at hr
        rw [hk.2] at hq
        obtain ⟨k2, h1, h2⟩ := Tr.putR h rs r.2 _ hf2 hq (fun i hi => by
          have := hr (t.owns + i) (by omega)
          rwa [← Nat.add_assoc] at this)
        refine ⟨hk.1.append (by rw [hl]; exact k2), fun v hv cs => ?_, fun hd => ?_⟩
        · rcases List.mem_cons.1 hv with rfl | hv
          · exact h.putV r.1 n cs hf1 (fun i hi => hr i (by omega))
          · exact h1 v hv cs
        · refine (h.putVd r.1 n hf1 (fun i hi => hr i (by omega)) hd.left).append ?_
          have hd2 := hd.right
          rw [hl] at hd2 ⊢
          exact h2 hd2
  | .drop :: rs, r, n, us, d, hf, hp, hr => by
      have hp : (Eng.putR rs r.2 n).map (fun q => (.undef :: q.1, q.2)) = some (us, d) := hp
      cases hq : Eng.putR rs r.2 n with
      | none => simp [hq] at hp
      | some q =>
        simp [hq] at hp
        obtain ⟨rfl, rfl⟩ := hp
        obtain ⟨k2, h1, h2⟩ := Tr.putR h rs r.2 n hf hq hr
        refine ⟨k2, fun v hv cs => ?_, h2⟩
        rcases List.mem_cons.1 hv with rfl | hv
        · intro hc; simp [CR] at hc
        · exact h1 v hv cs
  | .box t :: rs, (none, r2), n, us, d, hf, hp, hr => by
      have hf2 : freshR rs = true ∨ g = true := hf.imp (fun e => by simp only [freshR, Bool.and_eq_true] at e; exact e.2) id
      have hp : (Eng.putR rs r2 n).map (fun q => (.nilp :: q.1, q.2)) = some (us, d) := hp
      cases hq : Eng.putR rs r2 n with
      | none => simp [hq] at hp
      | some q =>
        simp [hq] at hp
        obtain ⟨rfl, rfl⟩ := hp
        obtain ⟨k2, h1, h2⟩ := Tr.putR h rs r2 n hf2 hq hr
        refine ⟨k2, fun v hv cs => ?_, h2⟩
        rcases List.mem_cons.1 hv with rfl | hv
        · intro hc; simpa [CR] using hc
        · exact h1 v hv cs
  | .box t :: rs, (some x, r2), n, us, d, hf, hp, hr => by
      have hf1 : t.roish = false ∨ g = true := hf.imp (fun e => by simp only [freshR, Bool.and_eq_true] at e; exact fresh_roish e.1) id
      have hf2 : freshR rs = true ∨ g = true := hf.imp (fun e => by simp only [freshR, Bool.and_eq_true] at e; exact e.2) id
      have hp : (if conf t.plain (Eng.putV t x (n + 1)).1 = true then (Eng.putR rs r2 (Eng.putV t x (n + 1)).2.2).map (fun q => (.ptr n [] :: q.1, (.obj n, .obj t.plain (Eng.putV t x (n + 1)).1) :: (Eng.putV t x (n + 1)).2.1 ++ q.2)) else none) = some (us, d) := hp
      have hk := putV_keys (t := t) x (n + 1)
      have hl := putV_owns (t := t) x (n + 1)
      split at hp
      · rename_i hcf
        cases hq : Eng.putR rs r2 (Eng.putV t x (n + 1)).2.2 with
        | none => simp [hq] at hp
        | some q =>
          simp [hq] at hp
          obtain ⟨rfl, rfl⟩ := hp
          simp only [List.length_append, List.length_cons] at hr
          rw [hk.2] at hq
          have hr0 := hr 0 (by omega)
          simp only [Nat.add_zero] at hr0
          have hr1 : ∀ i, i < t.owns → c''.ρ (n + 1 + i) = c'.ρ (n + 1 + i) := fun i hi => by
            have := hr (i + 1) (by omega)
            rwa [show n + (i + 1) = n + 1 + i by omega] at this
          obtain ⟨k2, h1, h2⟩ := Tr.putR h rs r2 _ hf2 hq (fun i hi => by
            have := hr (t.owns + i + 1) (by omega)
            rwa [show n + (t.owns + i + 1) = n + 1 + t.owns + i by omega] at this)
          refine ⟨?_, fun v hv cs => ?_, fun hd => ?_⟩
          · intro i q' hq'
            cases i with
            | zero => simp at hq'; subst hq'; rfl
            | succ i =>
              have := (hk.1.append (by rw [hl]; exact k2)) i q' (by simpa using hq')
              rw [this]; congr 1; omega
          · rcases List.mem_cons.1 hv with rfl | hv
            · intro hc
              simp only [CR] at hc ⊢
              rw [hr0]; exact hc
            · exact h1 v hv cs
          · refine DOk.cons ?_ ((h.putVd x (n + 1) hf1 hr1 hd.tail.left).append ?_)
            · have h0 := hd 0 _ rfl
              simp only [Nat.add_zero] at h0 ⊢
              rw [hr0]
              cases hρ : c'.ρ n <;> rw [hρ] at h0 <;> try exact h0.elim
              obtain ⟨q1, q2, q3, cells, e, q4, q5⟩ := h0
              exact ⟨q1, q2, q3, cells, e, by rw [h.w]; exact q4, h.putV x (n + 1) _ hf1 hr1 q5⟩
            · have hd2 := hd.tail.right
              rw [hl] at hd2 ⊢
              exact h2 hd2
      · simp at hp

theorem endO_keys : ∀ (ks : List PK) (o : DO ks) (i n : Nat), Keys n (endO ks o i n).2
  | [], _, _, _ => .nil _
  | .val _ :: ks, o, i, n => endO_keys ks o (i + 1) n
  | .rptr _ :: ks, o, i, n => endO_keys ks o (i + 1) n
  | .ptr t :: ks, o, i, n => by
      have hk := putV_keys o.1 n
      have hl := putV_owns o.1 n
      simp only [endO]
      refine hk.1.append ?_
      rw [hk.2, hl]
      exact endO_keys ks o.2 (i + 1) _
  | .mut t :: ks, o, i, n => endO_keys ks o.2 (i + 1) n

theorem Tr.putO (h : Tr c' c'' g) : ∀ (ks : List PK) (o : DO ks) (pls : List (Nat × Ty × Bool)) (i n : Nat) {o1 o2 : List (Loc × V)}, (roishP ks = false ∨ g = true) → PlOk S ks pls → Eng.putO ks o pls n = some (o1, o2) →
    (∀ i', i' < (endO ks o i n).2.length → c''.ρ (n + i') = c'.ρ (n + i')) → (∀ (j m : Nat) (p : Nat × Ty × Bool), (parsOf ks i)[j]? = some m → pls[j]? = some p → c''.ρ p.1 = c'.ρ m) →
    (∀ p ∈ pls, (∃ t l, S (.obj p.1) = .arrc true t l) → ∀ b, (c''.ρ p.1).blk = some b → c''.N b) →
    (∀ q ∈ (endO ks o i n).1, ∀ m, q.1 = .obj m → ObjR c' q.2 (c'.ρ m)) → DOk c' n (endO ks o i n).2 →
    o2 = (endO ks o i n).2 ∧ o1.map (·.1) = pls.map (fun p => .obj p.1) ∧ (parsOf ks i).length = pls.length ∧ (∀ q ∈ o1, ∀ m, q.1 = .obj m → ObjR c'' q.2 (c''.ρ m)) ∧ DOk c'' n o2
  | [], o, pls, i, n, o1, o2, _, hpl, hp, _, _, _, _, _ => by
      simp only [PlOk] at hpl
      subst hpl
      simp [Eng.putO] at hp
      obtain ⟨rfl, rfl⟩ := hp
      exact ⟨rfl, rfl, rfl, by simp, .nil _ _⟩
  | .val _ :: ks, o, pls, i, n, o1, o2, hg, hpl, hp, h1, h2, h3, h4, h5 => by
      have hp : Eng.putO ks o pls n = some (o1, o2) := by
        cases pls with
        | nil => exact hp
        | cons p ps => obtain ⟨a, b, e⟩ := p; exact hp
      exact Tr.putO h ks o pls (i + 1) n hg hpl hp h1 h2 h3 h4 h5
  | .rptr _ :: ks, o, pls, i, n, o1, o2, hg, hpl, hp, h1, h2, h3, h4, h5 => by
      have hp : Eng.putO ks o pls n = some (o1, o2) := by
        cases pls with
        | nil => exact hp
        | cons p ps => obtain ⟨a, b, e⟩ := p; exact hp
      exact Tr.putO h ks o pls (i + 1) n hg hpl hp h1 h2 h3 h4 h5
  | .ptr t :: ks, o, pls, i, n, o1, o2, hg, hpl, hp, h1, h2, h3, h4, h5 => by
      obtain ⟨⟨m, t', f⟩, ps, rfl, ht, ⟨v0, hS⟩, hpl⟩ := hpl
      simp only at ht
      subst ht
      have hp : (if conf t.plain (Eng.putV t o.1 n).1 = true then (Eng.putO ks o.2 ps (Eng.putV t o.1 n).2.2).map (fun r => ((.obj m, .obj t.plain (Eng.putV t o.1 n).1) :: r.1, (Eng.putV t o.1 n).2.1 ++ r.2)) else none) = some (o1, o2) := hp
      split at hp
      · rename_i hcf
        have hk := putV_keys (t := t) o.1 n
        have hl := putV_owns (t := t) o.1 n
        cases hq : Eng.putO ks o.2 ps (Eng.putV t o.1 n).2.2 with
        | none => simp [hq] at hp
        | some q =>
          simp [hq] at hp
          obtain ⟨rfl, rfl⟩ := hp
          simp only [endO, List.length_append] at h1 h4 h5 ⊢
          rw [hk.2] at hq
          have hgt : t.roish = false ∨ g = true := hg.imp (fun e => by simp [roishP] at e; exact e.1) id
          have hgk : roishP ks = false ∨ g = true := hg.imp (fun e => by simp [roishP] at e; exact e.2) id
          have hr1 : ∀ i', i' < t.owns → c''.ρ (n + i') = c'.ρ (n + i') := fun i' hi => h1 i' (by omega)
          have h52 := h5.right
          rw [hl] at h52
          rw [hk.2] at h1 h4 h52 ⊢
          obtain ⟨r1, r2, r3, r4, r5⟩ := Tr.putO h ks o.2 ps (i + 1) (n + t.owns) hgk hpl hq (fun i' hi => by
              have := h1 (t.owns + i') (by omega)
              rwa [← Nat.add_assoc] at this) (fun j m' p' e1 e2 => h2 (j + 1) m' p' (by simpa [parsOf] using e1) (by simpa using e2)) (fun p hp => h3 p (by simp [hp])) (fun q hq => h4 q (by simp [hq])) h52
          have hm0 := h2 0 _ _ rfl rfl
          simp only at hm0
          refine ⟨by rw [r1], by simp [r2], by simp [parsOf, r3], fun q' hq' m' e => ?_, (h.putVd o.1 n hgt hr1 h5.left).append (by rw [hl]; exact r5)⟩
          rcases List.mem_cons.1 hq' with rfl | hq'
          · cases e
            have h0 := h4 _ (List.mem_cons_self ..) _ rfl
            simp only at h0 ⊢
            rw [hm0]
            cases hρ : c'.ρ (parName + i) <;> rw [hρ] at h0 <;> try exact h0.elim
            obtain ⟨q1, q2, q3, cells, e, q4, q5⟩ := h0
            exact ⟨q1, q2, q3, cells, e, by rw [h.w]; exact q4, h.putV o.1 n _ hgt hr1 q5⟩
          · exact r4 q' hq' m' e
      · simp at hp
  | .mut t :: ks, o, pls, i, n, o1, o2, hg, hpl, hp, h1, h2, h3, h4, h5 => by
      obtain ⟨⟨m, t', f⟩, ps, rfl, ⟨l0, hS⟩, hpl⟩ := hpl
      simp only at hS
      simp only [Eng.putO] at hp
      cases hq : Eng.putO ks o.2 ps n with
      | none => simp [hq] at hp
      | some q =>
        simp [hq] at hp
        obtain ⟨rfl, rfl⟩ := hp
        simp only [endO] at h1 h4 h5 ⊢
        have hgt : t.flat = true ∨ g = true := hg.imp (fun e => by simp [roishP] at e; exact e.1) id
        have hgk : roishP ks = false ∨ g = true := hg.imp (fun e => by simp [roishP] at e; exact e.2) id
        obtain ⟨r1, r2, r3, r4, r5⟩ := Tr.putO h ks o.2 ps (i + 1) n hgk hpl hq h1 (fun j m' p' e1 e2 => h2 (j + 1) m' p' (by simpa [parsOf] using e1) (by simpa using e2)) (fun p hp => h3 p (by simp [hp])) (fun q hq => h4 q (by simp [hq])) h5
        have hm0 := h2 0 _ _ rfl rfl
        simp only at hm0
        refine ⟨r1, by simp [r2], by simp [parsOf, r3], fun q' hq' m' e => ?_, r5⟩
        rcases List.mem_cons.1 hq' with rfl | hq'
        · cases e
          have h0 := h4 _ (List.mem_cons_self ..) _ rfl
          simp only at h0 ⊢
          rw [hm0]
          refine h.row' hgt (fun hf b hb => h3 _ (List.mem_cons_self ..) ⟨_, _, by rw [← hf]; exact hS⟩ b (by simp only; rw [hm0]; exact hb)) h0
        · exact r4 q' hq' m' e

end
end Go.Eng
