/- The engine, part P: data that change their names. -/
import Derived.Test.YtnpeafceolodiaaGreatEngO
namespace Go.Eng
open Go.RowKit

/-- New objects, one name after another. -/
def Keys (n : Nat) (d : List (Loc × V)) : Prop := ∀ i (q : Loc × V), d[i]? = some q → q.1 = .obj (n + i)
def DOk (c' : Cx) (n : Nat) (d : List (Loc × V)) : Prop := ∀ i (q : Loc × V), d[i]? = some q → ObjR c' q.2 (c'.ρ (n + i))

theorem Keys.nil (n : Nat) : Keys n [] := by intro i q h; simp at h
theorem Keys.append {n : Nat} {d e : List (Loc × V)} (h : Keys n d) (h' : Keys (n + d.length) e) : Keys n (d ++ e) := by
  intro i q hq
  rw [List.getElem?_append] at hq
  split at hq
  · exact h i q hq
  · have := h' _ _ hq
    rwa [show n + d.length + (i - d.length) = n + i by omega] at this
theorem DOk.nil (c' : Cx) (n : Nat) : DOk c' n [] := by intro i q h; simp at h
theorem DOk.append {c' : Cx} {n : Nat} {d e : List (Loc × V)} (h : DOk c' n d) (h' : DOk c' (n + d.length) e) : DOk c' n (d ++ e) := by
  intro i q hq
  rw [List.getElem?_append] at hq
  split at hq
  · exact h i q hq
  · have := h' _ _ hq
    rwa [show n + d.length + (i - d.length) = n + i by omega] at this

/-- What the new names stand for. -/
def Refs (c : Cx) (own : List Nat) (refs : List Ref) : Prop := refs.filterMap Ref.blk = own.filterMap (fun m => (c.ρ m).blk) ∧ ∀ r ∈ refs, ∀ b t, r = .var b t → c.N b
def Named (c' : Cx) (n : Nat) (refs : List Ref) : Prop := ∀ i r, refs[i]? = some r → c'.ρ (n + i) = r
theorem Refs.nil (c : Cx) : Refs c [] [] := ⟨rfl, by simp⟩
theorem Refs.append {c : Cx} {l m : List Nat} {r q : List Ref} (h : Refs c l r) (h' : Refs c m q) : Refs c (l ++ m) (r ++ q) :=
  ⟨by rw [List.filterMap_append, List.filterMap_append, h.1, h'.1], fun x hx => (List.mem_append.1 hx).elim (h.2 x) (h'.2 x)⟩
theorem Named.left {c' : Cx} {n : Nat} {r q : List Ref} (h : Named c' n (r ++ q)) : Named c' n r := fun i x hx => h i x (by
  rw [List.getElem?_append_left (List.getElem?_eq_some_iff.1 hx).1]; exact hx)
theorem Named.right {c' : Cx} {n : Nat} {r q : List Ref} (h : Named c' n (r ++ q)) : Named c' (n + r.length) q := fun i x hx => by
  have := h (r.length + i) x (by rw [List.getElem?_append_right (by omega)]; simpa using hx)
  rwa [← Nat.add_assoc] at this

structure Moves (c c' : Cx) : Prop where
  w : c'.w = c.w
  rn : ∀ b o, c.R b o → c'.R b o ∧ (c.N b → c'.N b)

section
variable {Mu : Nat → Prop} {S : St} {c c' : Cx}

theorem Moves.rep (h : Moves c c') {f : Bool} {t : Ty} {x : t.den} {cs : List Value} (hr : Rep (c.Rf f) c.w t x cs) : Rep (c'.Rf f) c'.w t x cs := by
  rw [h.w]
  exact Rep.later (fun b o hr => ⟨(h.rn b o hr.1).1, fun hf => (h.rn b o hr.1).2 (hr.2 hf)⟩) (fun _ _ _ _ hc => hc) t x cs hr

theorem Moves.repL (h : Moves c c') {f : Bool} {t : Ty} {l : List t.den} {cs : List Value} (hr : RepL (Rep (c.Rf f) c.w t) l cs) : RepL (Rep (c'.Rf f) c'.w t) l cs :=
  hr.mono fun _ _ hh => h.rep hh

/-- A row that changes its name. -/
theorem Moves.arrc (h : Moves c c') (ho : ObjsR Mu S c) {m : Nat} {f g : Bool} {t : Ty} {l : List t.den} (hS : S (.obj m) = .arrc f t l) (hN : ∀ b, (c.ρ m).blk = some b → c.N b → c'.N b) (hg : g = true → f = true) : ObjR c' (.arrc g t l) (c.ρ m) := by
  have hob := ho.obj m
  rw [hS] at hob
  cases hρ : c.ρ m <;> rw [hρ] at hob hN <;> try exact hob.elim
  rename_i b t' len cap
  cases b with
  | none => exact hob
  | some b =>
    obtain ⟨rfl, q1, q2, q3, q4, q5, q6, cells, e, q7, q8, q9⟩ := hob
    refine ⟨rfl, q1, q2, q3, q4, q5, fun hgt => hN b rfl (q6 (hg hgt)), cells, e, by rw [h.w]; exact q7, q8, ?_⟩
    exact (h.repL q9).mono fun x cs hh => Rep.weaken hg hh

theorem takeV_node {t : Ty} {vs : List V} {k : Tk t.den} (hr : (takeV t (.node vs)).run S = some k) : t = .unit ∨ ∃ a b, t = .prod a b := by
  cases t with
  | unit => exact .inl rfl
  | prod a b => exact .inr ⟨a, b, rfl⟩
  | int _ => obtain ⟨_, e, _⟩ := takeInt_some hr; cases e
  | bool => obtain ⟨_, e, _⟩ := takeBool_some hr; cases e
  | str => obtain ⟨_, e, _⟩ := takeStr_some hr; cases e
  | arr _ _ => obtain ⟨_, e, _⟩ := takeArr_some hr; cases e
  | sl md t => have := takeSl_conf (md' := .ro) (show (takeSl md t (.node vs)).run S = some k from hr); simp [conf] at this
  | opq => nomatch k.x
  | ifc => nomatch k.x

theorem putV_node : ∀ {t : Ty} (x : t.den) (n : Nat), (t = .unit ∨ ∃ a b, t = .prod a b) → t.plain.good = true → ∃ vs, (putV t x n).1 = .node vs
  | .unit, _, _, _, _ => ⟨[], rfl⟩
  | .prod a b, x, n, _, hg => by
      simp only [Ty.plain] at hg
      obtain ⟨h1, h2, h3⟩ := Ty.good_prod hg
      have hb : b = .unit ∨ ∃ p q, b = .prod p q := by
        cases b <;> simp_all [Ty.plain]
      obtain ⟨vs, e⟩ := putV_node x.2 (putV a x.1 n).2.2 hb h2
      exact ⟨(putV a x.1 n).1 :: vs, by simp only [putV, e, consN_node]⟩
  | .int _, _, _, h, _ => by simp at h
  | .bool, _, _, h, _ => by simp at h
  | .str, _, _, h, _ => by simp at h
  | .arr _ _, _, _, h, _ => by simp at h
  | .sl _ _, _, _, h, _ => by simp at h
  | .opq, x, _, _, _ => nomatch x
  | .ifc, x, _, _, _ => nomatch x

theorem conf_putV : ∀ {t : Ty} (x : t.den) (n : Nat), t.plain.good = true → conf t.plain (putV t x n).1 = true
  | .unit, _, _, _ => rfl
  | .int _, _, _, _ => by simp [Ty.plain, putV, conf]
  | .bool, _, _, _ => rfl
  | .str, _, _, _ => rfl
  | .arr _ _, _, _, _ => by simp [Ty.plain, putV, conf]
  | .sl .ro _, _, _, _ => by simp [Ty.plain, putV, conf]
  | .sl .fr _, _, _, _ => by simp [Ty.plain, putV, conf]
  | .sl .own _, _, _, _ => by simp [Ty.plain, putV, conf]
  | .sl .ownx _, _, _, _ => by simp [Ty.plain, putV, conf]
  | .prod a b, x, n, hg => by
      simp only [Ty.plain] at hg ⊢
      obtain ⟨h1, h2, h3⟩ := Ty.good_prod hg
      have hb : b = .unit ∨ ∃ p q, b = .prod p q := by
        cases b <;> simp_all [Ty.plain]
      exact conf_consN (conf_putV x.1 n h1) (conf_putV x.2 _ h2) (putV_node x.2 _ hb h2)
  | .opq, x, _, _ => nomatch x
  | .ifc, x, _, _ => nomatch x

def Fits (c c' : Cx) (own : List Nat) : Prop := ∀ m ∈ own, ∀ b, (c.ρ m).blk = some b → c.N b → c'.N b

/-- A datum under new names. -/
def Puts (c : Cx) (t : Ty) (x : t.den) (own : List Nat) (n : Nat) (cs : List Value) : Prop :=
  ∃ v' d refs, putV t x n = (v', d, n + refs.length) ∧ d.length = refs.length ∧ Keys n d ∧ Refs c own refs ∧ ∀ c', Moves c c' → Fits c c' own → Named c' n refs → CR c' v' cs ∧ DOk c' n d

theorem put_sl (h : ObjsR Mu S c) {md : Md} {t : Ty} {v : V} {k : Tk (List t.den)} {cs : List Value} (n : Nat) (hz : (Ty.sl md t).plain.good = true) (hr : (takeSl md t v).run S = some k) (hb : k.bor = []) (hv : k.vars = []) (hc : CR c v cs) :
    Puts c (.sl md t) k.x k.own n cs := by
  have hz1 : t.good = true ∧ 0 < t.size := by simpa [Ty.plain, Ty.good] using hz
  -- looked at alone, nothing taken
  have look : k.own = [] → (md = .ro ∨ md = .fr ∧ k.fr = true) → Puts c (.sl md t) k.x k.own n cs := by
    intro ho hmd
    have hrep := takeSl_rep h hr hc ho hv (Later.refl c) h (by rw [hb]; simp)
    rcases hmd with rfl | ⟨rfl, hf⟩
    · refine ⟨.sl false t k.x, [], [], by simp [putV], rfl, .nil _, by rw [ho]; exact Refs.nil c, fun c' hm _ _ => ⟨?_, .nil _ _⟩⟩
      simp only [CR]
      exact hm.rep (Rep.weaken (f := k.fr) (f' := false) (by simp) hrep)
    · refine ⟨.sl true t k.x, [], [], by simp [putV], rfl, .nil _, by rw [ho]; exact Refs.nil c, fun c' hm _ _ => ⟨?_, .nil _ _⟩⟩
      simp only [CR]
      rw [hf] at hrep
      exact hm.rep hrep
  -- one row under a new name
  have one : ∀ (g : Bool) (r : Ref) (x : Value), cs = [x] → putV (.sl md t) k.x n = (.own n, [(.obj n, .arrc g t k.x)], n + 1) → Refs c k.own [r] → (∀ c', Moves c c' → Fits c c' k.own → RefOwn r x ∧ ObjR c' (.arrc g t k.x) r) → Puts c (.sl md t) k.x k.own n cs := by
    rintro g r x rfl hp hrf hob
    refine ⟨_, _, [r], hp, rfl, ?_, hrf, ?_⟩
    · intro i q hq
      cases i with
      | zero => simp at hq; subst hq; rfl
      | succ i => simp at hq
    · intro c' hm hf hn
      have := hn 0 r rfl
      obtain ⟨q1, q2⟩ := hob c' hm hf
      refine ⟨?_, ?_⟩
      · simp only [CR]
        exact ⟨x, rfl, by rw [show c'.ρ n = r from this]; exact q1⟩
      · intro i q hq
        cases i with
        | zero => simp at hq; subst hq; rw [this]; exact q2
        | succ i => simp at hq
  have hr0 := hr
  cases v <;> simp only [takeSl, run_get, run_ret, run_fail, reduceCtorEq, Option.some.injEq] at hr
  case nils =>
    subst hr
    simp only [CR] at hc
    subst hc
    cases md with
    | ro => exact look rfl (.inl rfl)
    | fr => exact look rfl (.inr ⟨rfl, rfl⟩)
    | own => exact one true (.arr none t 0 0) _ rfl rfl ⟨rfl, by simp⟩ fun c' _ _ => ⟨⟨_, rfl⟩, rfl, hz1.1, hz1.2, rfl, rfl, rfl⟩
    | ownx => exact one false (.arr none t 0 0) _ rfl rfl ⟨rfl, by simp⟩ fun c' _ _ => ⟨⟨_, rfl⟩, rfl, hz1.1, hz1.2, rfl, rfl, rfl⟩
  case sl f t' l =>
    split at hr
    · rename_i e; subst e
      cases md <;> simp only [run_ret, run_fail, reduceCtorEq, Option.some.injEq, run_guard_some] at hr
      · subst hr; exact look rfl (.inl rfl)
      · obtain ⟨hf, rfl⟩ := hr; exact look rfl (.inr ⟨rfl, rfl⟩)
    · simp at hr
  case own m =>
    simp only [CR] at hc
    obtain ⟨x, rfl, hx⟩ := hc
    cases hS : S (.obj m) <;> rw [hS] at hr <;> simp only [run_fail, reduceCtorEq] at hr
    case arrc f t' l =>
      split at hr
      · rename_i e; subst e
        cases md <;> simp only [run_ret, reduceCtorEq, Option.some.injEq, run_guard_some, castL_rfl] at hr
        · subst hr; simp at hb
        · obtain ⟨hf, rfl⟩ := hr; simp at hb
        · obtain ⟨hf, rfl⟩ := hr
          subst hf
          refine one true (c.ρ m) x rfl rfl ⟨by simp [List.filterMap], ?_⟩ fun c' hm hfit => ⟨hx, hm.arrc h hS (fun b hb hn => hfit m (by simp) b hb hn) (fun _ => rfl)⟩
          intro r hr b u he
          simp at hr; subst hr
          rw [he] at hx; exact hx.elim
        · subst hr
          refine one false (c.ρ m) x rfl rfl ⟨by simp [List.filterMap], ?_⟩ fun c' hm hfit => ⟨hx, hm.arrc h hS (fun b hb hn => hfit m (by simp) b hb hn) (by simp)⟩
          intro r hr b u he
          simp at hr; subst hr
          rw [he] at hx; exact hx.elim
      · simp at hr
    case frzc f t' l =>
      split at hr
      · rename_i e; subst e
        cases md <;> simp only [run_ret, run_fail, reduceCtorEq, Option.some.injEq, run_guard_some] at hr
        · subst hr; exact look rfl (.inl rfl)
        · obtain ⟨hf, rfl⟩ := hr; exact look rfl (.inr ⟨rfl, rfl⟩)
      · simp at hr
  case vsl m p lo hi =>
    cases md <;> cases t <;> simp only [run_fail, reduceCtorEq, run_get] at hr
    cases hS : S (.obj m) <;> rw [hS] at hr <;> simp only [run_fail, reduceCtorEq, run_bind_some] at hr
    obtain ⟨u, _, hr⟩ := hr
    cases u <;> simp only [run_fail, reduceCtorEq] at hr
    split at hr
    · simp only [run_ret, Option.some.injEq] at hr; subst hr; simp at hv
    · simp at hr

theorem put_move (h : ObjsR Mu S c) : ∀ {t : Ty} {v : V} {k : Tk t.den} {cs : List Value} (n : Nat), t.plain.good = true → (takeV t v).run S = some k → k.bor = [] → k.vars = [] → CR c v cs → Puts c t k.x k.own n cs
  | .unit, v, k, cs, n, _, hr, hb, hv, hc => by
      obtain ⟨rfl, rfl⟩ := takeUnit_some hr
      exact ⟨.node [], [], [], rfl, rfl, .nil _, .nil c, fun c' _ _ _ => ⟨by simpa [CR, CRs] using hc, .nil _ _⟩⟩
  | .int kk, v, k, cs, n, _, hr, hb, hv, hc => by
      obtain ⟨x, rfl, rfl⟩ := takeInt_some hr
      exact ⟨.int kk x, [], [], rfl, rfl, .nil _, .nil c, fun c' _ _ _ => ⟨by simpa [CR] using hc, .nil _ _⟩⟩
  | .bool, v, k, cs, n, _, hr, hb, hv, hc => by
      obtain ⟨x, rfl, rfl⟩ := takeBool_some hr
      exact ⟨.bool x, [], [], rfl, rfl, .nil _, .nil c, fun c' _ _ _ => ⟨by simpa [CR] using hc, .nil _ _⟩⟩
  | .str, v, k, cs, n, _, hr, hb, hv, hc => by
      obtain ⟨x, rfl, rfl⟩ := takeStr_some hr
      exact ⟨.str x, [], [], rfl, rfl, .nil _, .nil c, fun c' _ _ _ => ⟨by simpa [CR] using hc, .nil _ _⟩⟩
  | .arr q kk, v, k, cs, n, _, hr, hb, hv, hc => by
      obtain ⟨x, rfl, rfl⟩ := takeArr_some hr
      exact ⟨.arr q kk x, [], [], rfl, rfl, .nil _, .nil c, fun c' _ _ _ => ⟨by simpa [CR] using hc, .nil _ _⟩⟩
  | .sl md t, v, k, cs, n, hg, hr, hb, hv, hc => put_sl h n hg hr hb hv hc
  | .prod a b, v, k, cs, n, hg, hr, hb, hv, hc => by
      obtain ⟨u, vs, x, y, rfl, h1, h2, rfl⟩ := takeProd_some hr
      simp only [Ty.plain] at hg
      obtain ⟨g1, g2, _⟩ := Ty.good_prod hg
      simp at hb hv
      simp only [CR, CRs] at hc
      obtain ⟨c1, c2, rfl, q1, q2⟩ := hc
      obtain ⟨v1, d1, r1, e1, l1, k1, f1, m1⟩ := put_move h n g1 h1 hb.1 hv.1 q1
      obtain ⟨v2, d2, r2, e2, l2, k2, f2, m2⟩ := put_move h (n + r1.length) g2 h2 hb.2 hv.2 (by simpa only [CR] using q2)
      refine ⟨consN v1 v2, d1 ++ d2, r1 ++ r2, ?_, by simp [l1, l2], k1.append (by rw [l1]; exact k2), f1.append f2, ?_⟩
      · simp only [putV, e1, e2, List.length_append, Nat.add_assoc]
      · intro c' hm hf hn
        obtain ⟨p1, p2⟩ := m1 c' hm (fun m hm' => hf m (by simp [hm'])) hn.left
        obtain ⟨p3, p4⟩ := m2 c' hm (fun m hm' => hf m (by simp [hm'])) hn.right
        exact ⟨consN_cells _ _ _ _ p1 p3, p2.append (by rw [l1]; exact p4)⟩
  | .opq, v, k, cs, n, _, hr, hb, hv, hc => nomatch k.x
  | .ifc, v, k, cs, n, _, hr, hb, hv, hc => nomatch k.x
end
end Go.Eng
