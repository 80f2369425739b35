/- The engine, part D: reading and writing. -/
import Derived.Test.YtnpeafceolodiaaGreatEngC
namespace Go.Eng
open Go.RowKit

/-- What is read, the state as it is. -/
def Rd.run {α : Type} : Rd α → St → Option α
  | .ret a, _ => some a
  | .fail, _ => none
  | .get l k, S => (k (S l)).run S
  | .shp m k, S => (k (shapeV (S (.obj m)))).run S
  | .opt o k, S => match o with | some x => (k x).run S | none => none
  | .alt o n k, S => match o with | some x => (k x).run S | none => n.run S

section
variable {α β : Type} {S : St}
@[simp] theorem run_ret (a : α) : (Rd.ret a).run S = some a := rfl
@[simp] theorem run_fail : (Rd.fail : Rd α).run S = none := rfl
@[simp] theorem run_get (l : Loc) (k : V → Rd α) : (Rd.get l k).run S = (k (S l)).run S := rfl
@[simp] theorem run_shp (m : Nat) (k : V → Rd α) : (Rd.shp m k).run S = (k (shapeV (S (.obj m)))).run S := rfl
@[simp] theorem run_rd (l : Loc) : (rd l).run S = some (S l) := rfl
theorem run_opt_some {γ : Type} {o : Option γ} {k : γ → Rd α} {z : α} : (Rd.opt o k).run S = some z ↔ ∃ x, o = some x ∧ (k x).run S = some z := by
  cases o <;> simp [Rd.run]
theorem run_bind (r : Rd α) (f : α → Rd β) : (r.bind f).run S = (r.run S).bind fun x => (f x).run S := by
  induction r with
  | ret a => rfl
  | fail => rfl
  | get l k ih => exact ih _
  | shp m k ih => exact ih _
  | opt o k ih => cases o with
    | none => rfl
    | some x => exact ih x
  | alt o n k ihn ih => cases o with
    | none => exact ihn
    | some x => exact ih x
theorem run_bind_some {r : Rd α} {f : α → Rd β} {z : β} : (r.bind f).run S = some z ↔ ∃ x, r.run S = some x ∧ (f x).run S = some z := by
  rw [run_bind, Option.bind_eq_some_iff]
theorem run_guard_some {b : Bool} {k : Rd α} {z : α} : (Rd.guard b k).run S = some z ↔ b = true ∧ k.run S = some z := by
  cases b <;> simp [Rd.guard]
theorem run_need_some {b : Bool} {k : Rd α} {z : α} : (Rd.need b k).run S = some z ↔ b = true ∧ k.run S = some z := by
  cases b <;> simp [Rd.need, Rd.run]
theorem run_newN_some {m : Nat} {k : Rd α} {z : α} : (newN m k).run S = some z ↔ S (.obj m) = .undef ∧ k.run S = some z := by
  simp only [newN, run_get]
  cases h : S (.obj m) <;> simp
end

theorem mapInt_one (k : IntKind) (l : List Int) : ∀ u ∈ l.map (Value.int k), u.oneCell' = true := by
  intro u hu
  obtain ⟨x, _, rfl⟩ := List.mem_map.1 hu
  rfl

theorem Rep.oneCell {R : Nat → Nat → Prop} {w : World} : ∀ (t : Ty) (x : t.den) (cs : List Value), Rep R w t x cs → ∀ u ∈ cs, u.oneCell' = true
  | .unit, _, _, h => by simp only [Rep] at h; subst h; simp
  | .int _, _, _, h => by simp only [Rep] at h; obtain ⟨rfl, _⟩ := h; simp [Value.oneCell']
  | .bool, _, _, h => by simp only [Rep] at h; subst h; simp [Value.oneCell']
  | .str, _, _, h => by simp only [Rep] at h; obtain ⟨rfl, _⟩ := h; simp [Value.oneCell']
  | .arr _ _, _, _, h => by simp only [Rep, RepA] at h; obtain ⟨_, _, rfl⟩ := h; exact mapInt_one _ _
  | .sl _ _, _, _, h => by simp only [Rep] at h; obtain ⟨_, _, _, rfl, _⟩ := h; simp [Value.oneCell']
  | .prod a b, x, _, h => by
      simp only [Rep] at h
      obtain ⟨c1, c2, rfl, h1, h2⟩ := h
      intro u hu
      rcases List.mem_append.1 hu with hu | hu
      · exact Rep.oneCell a _ _ h1 u hu
      · exact Rep.oneCell b _ _ h2 u hu
  | .opq, x, _, _ => nomatch x
  | .ifc, x, _, _ => nomatch x

theorem RefPtr.pointer {r : Ref} {p : List Nat} {x : Value} (h : RefPtr r p x) : ∃ a, x = .pointer (some a) := by
  cases r with
  | none => exact h.elim
  | dead => exact h
  | var b t => obtain ⟨o, u, _, e⟩ := h; exact ⟨_, e⟩
  | arr b t n m => cases b with
    | none => exact h.elim
    | some b => obtain ⟨_, _, _, _, _, _, _, e⟩ := h; exact ⟨_, e⟩
  | frz b t n m => cases b with
    | none => exact h.elim
    | some b => obtain ⟨_, _, _, _, _, _, _, e⟩ := h; exact ⟨_, e⟩
  | iter b => exact ⟨_, h.2⟩
theorem RefOwn.slice {r : Ref} {x : Value} (h : RefOwn r x) : ∃ a n m, x = .slice a n m := by
  cases r with
  | none => exact h.elim
  | dead => exact h
  | var b t => exact h.elim
  | arr b t n m => cases b with
    | none => obtain ⟨ad, h⟩ := h; exact ⟨_, _, _, h⟩
    | some b => exact ⟨_, _, _, h⟩
  | frz b t n m => cases b with
    | none => obtain ⟨ad, h⟩ := h; exact ⟨_, _, _, h⟩
    | some b => exact ⟨_, _, _, h⟩
  | iter b => exact h.elim
theorem RefVsl.slice {r : Ref} {p : List Nat} {lo hi : Nat} {x : Value} (h : RefVsl r p lo hi x) : ∃ a n m, x = .slice a n m := by
  cases r with
  | dead => exact h
  | var b t => obtain ⟨_, _, _, _, _, _, _, _, e, _⟩ := h; exact ⟨_, _, _, e⟩
  | _ => exact h.elim
theorem RefVap.pointer {r : Ref} {p : List Nat} {lo n : Nat} {x : Value} (h : RefVap r p lo n x) : ∃ a, x = .pointer (some a) := by
  cases r with
  | none => exact h.elim
  | dead => exact h
  | var b t => obtain ⟨_, _, _, _, _, e⟩ := h; exact ⟨_, e⟩
  | arr b t n m => cases b with
    | none => exact h.elim
    | some b => obtain ⟨_, _, _, _, e⟩ := h; exact ⟨_, e⟩
  | frz b t n m => cases b with
    | none => exact h.elim
    | some b => obtain ⟨_, _, _, _, e⟩ := h; exact ⟨_, e⟩
  | iter b => exact h.elim

mutual
theorem CR.oneCell {c : Cx} : ∀ (v : V) (cs : List Value), CR c v cs → ∀ u ∈ cs, u.oneCell' = true
  | .int _ _, _, h => by simp only [CR] at h; obtain ⟨rfl, _⟩ := h; simp [Value.oneCell']
  | .bool _, _, h => by simp only [CR] at h; subst h; simp [Value.oneCell']
  | .str _, _, h => by simp only [CR] at h; obtain ⟨rfl, _⟩ := h; simp [Value.oneCell']
  | .arr _ _ _, _, h => by simp only [CR, RepA] at h; obtain ⟨_, _, rfl⟩ := h; exact mapInt_one _ _
  | .sl f t l, _, h => by simp only [CR] at h; exact Rep.oneCell _ _ _ h
  | .nils, _, h => by simp only [CR] at h; subst h; simp [Value.oneCell']
  | .own m, _, h => by
      simp only [CR] at h
      obtain ⟨x, rfl, h⟩ := h
      obtain ⟨_, _, _, rfl⟩ := h.slice
      simp [Value.oneCell']
  | .node vs, cs, h => by simp only [CR] at h; exact CRs.oneCell vs cs h
  | .ptr m p, _, h => by
      simp only [CR] at h
      obtain ⟨x, rfl, h⟩ := h
      obtain ⟨_, rfl⟩ := h.pointer
      simp [Value.oneCell']
  | .eptr f t x, _, h => by simp only [CR] at h; obtain ⟨_, _, _, rfl, _⟩ := h; simp [Value.oneCell']
  | .vsl m p lo hi, _, h => by
      simp only [CR] at h
      obtain ⟨x, rfl, h⟩ := h
      obtain ⟨_, _, _, rfl⟩ := h.slice
      simp [Value.oneCell']
  | .vap m p lo n, _, h => by
      simp only [CR] at h
      obtain ⟨x, rfl, h⟩ := h
      obtain ⟨_, rfl⟩ := h.pointer
      simp [Value.oneCell']
  | .nilp, _, h => by simp only [CR] at h; subst h; simp [Value.oneCell']
  | .iface T v, _, h => by simp only [CR] at h; obtain ⟨x, rfl, _⟩ := h; simp [Value.oneCell']
  | .nilif, _, h => by simp only [CR] at h; subst h; simp [Value.oneCell']
  | .fn _, _, h => by simp only [CR] at h; subst h; simp [Value.oneCell']
  | .undef, _, h => by simp [CR] at h
  | .skip, _, h => by simp [CR] at h
  | .tup _, _, h => by simp [CR] at h
  | .obj _ _, _, h => by simp [CR] at h
  | .arrc _ _ _, _, h => by simp [CR] at h
  | .frzc _ _ _, _, h => by simp [CR] at h
  | .iter _ _, _, h => by simp [CR] at h
  | .dead, _, h => by simp [CR] at h
theorem CRs.oneCell {c : Cx} : ∀ (vs : List V) (cs : List Value), CRs c vs cs → ∀ u ∈ cs, u.oneCell' = true
  | [], _, h => by simp only [CRs] at h; subst h; simp
  | v :: vs, _, h => by
      simp only [CRs] at h
      obtain ⟨c1, c2, rfl, h1, h2⟩ := h
      intro u hu
      rcases List.mem_append.1 hu with hu | hu
      · exact CR.oneCell v _ h1 u hu
      · exact CRs.oneCell vs _ h2 u hu
end

theorem cells_one {x : Value} (h : x.oneCell' = true) : x.cells = #[x] := by
  cases x <;> simp_all [Value.cells, Value.oneCell']

theorem RepA.length {n : Nat} {k : IntKind} {l : List Int} {cs : List Value} (h : RepA n k l cs) : cs.length = n := by
  obtain ⟨e, _, rfl⟩ := h; simpa using e

theorem Rep.length {R : Nat → Nat → Prop} {w : World} : ∀ (t : Ty) (x : t.den) (cs : List Value), Rep R w t x cs → cs.length = t.size
  | .unit, _, _, h => by simp only [Rep] at h; subst h; rfl
  | .int _, _, _, h => by simp only [Rep] at h; obtain ⟨rfl, _⟩ := h; rfl
  | .bool, _, _, h => by simp only [Rep] at h; subst h; rfl
  | .str, _, _, h => by simp only [Rep] at h; obtain ⟨rfl, _⟩ := h; rfl
  | .arr _ _, _, _, h => by simp only [Rep] at h; exact h.length
  | .sl _ _, _, _, h => by simp only [Rep] at h; obtain ⟨_, _, _, rfl, _⟩ := h; rfl
  | .prod a b, x, _, h => by
      simp only [Rep] at h
      obtain ⟨c1, c2, rfl, h1, h2⟩ := h
      simp [Ty.size, Rep.length a _ _ h1, Rep.length b _ _ h2]
  | .opq, x, _, _ => nomatch x
  | .ifc, x, _, _ => nomatch x

theorem RepL.length {α : Type} {r : α → List Value → Prop} {n : Nat} (hr : ∀ x cs, r x cs → cs.length = n) : ∀ {l : List α} {cs : List Value}, RepL r l cs → cs.length = l.length * n
  | [], _, h => by simp only [RepL] at h; subst h; simp
  | x :: l, _, h => by
      obtain ⟨c1, c2, rfl, h1, h2⟩ := h
      simp [hr _ _ h1, RepL.length hr h2, Nat.add_mul, Nat.add_comm]

theorem consN_cells {c : Cx} (v u : V) (c1 c2 : List Value) (h1 : CR c v c1) (h2 : CR c u c2) : CR c (consN v u) (c1 ++ c2) := by
  cases u with
  | node vs => simp only [consN, CR, CRs] at h2 ⊢; exact ⟨c1, c2, rfl, h1, h2⟩
  | _ => simp only [consN, CR, CRs]; exact ⟨c1, c2, rfl, h1, c2, [], by simp, h2, rfl⟩

/-- What is expanded is held by the same cells. -/
theorem CR.expand {c : Cx} {f : Bool} : ∀ (t : Ty) (x : t.den) (cs : List Value), Rep (c.Rf f) c.w t x cs → CR c (expand f t x) cs
  | .unit, _, _, h => by simp only [Rep] at h; subst h; simp [Eng.expand, CR, CRs]
  | .int _, _, _, h => by simpa [Eng.expand, CR, Rep] using h
  | .bool, _, _, h => by simpa [Eng.expand, CR, Rep] using h
  | .str, _, _, h => by simpa [Eng.expand, CR, Rep] using h
  | .arr _ _, _, _, h => by simpa [Eng.expand, CR, Rep] using h
  | .sl _ _, _, _, h => by simp only [Eng.expand, CR]; exact h
  | .prod a b, x, _, h => by
      simp only [Rep] at h
      obtain ⟨c1, c2, rfl, h1, h2⟩ := h
      exact consN_cells _ _ _ _ (CR.expand a _ _ h1) (CR.expand b _ _ h2)
  | .opq, x, _, _ => nomatch x
  | .ifc, x, _, _ => nomatch x

theorem conf_consN {a b : Ty} {v u : V} (h1 : conf a v = true) (h2 : conf b u = true) (hb : ∃ vs, u = .node vs) : conf (.prod a b) (consN v u) = true := by
  obtain ⟨vs, rfl⟩ := hb
  simp [consN, conf, h1, h2]

theorem consN_node (v : V) (vs : List V) : consN v (.node vs) = .node (v :: vs) := rfl

theorem expand_node {f : Bool} : ∀ {t : Ty} (x : t.den), (t = .unit ∨ ∃ a b, t = .prod a b) → t.good = true → ∃ vs, expand f t x = .node vs
  | .unit, _, _, _ => ⟨[], rfl⟩
  | .prod a b, x, _, hg => by
      simp [Ty.good] at hg
      have hb : b = .unit ∨ ∃ p q, b = .prod p q := by
        cases b <;> simp_all
      obtain ⟨vs, e⟩ := expand_node (f := f) x.2 hb hg.1.2
      exact ⟨expand f a x.1 :: vs, by simp only [expand, e, consN_node]⟩
  | .int _, _, h, _ => by simp at h
  | .bool, _, h, _ => by simp at h
  | .str, _, h, _ => by simp at h
  | .arr _ _, _, h, _ => by simp at h
  | .sl _ _, _, h, _ => by simp at h
  | .opq, x, _, _ => nomatch x
  | .ifc, x, _, _ => nomatch x

theorem conf_expand {f : Bool} : ∀ (t : Ty) (x : t.den), t.good = true → conf t (expand f t x) = true
  | .unit, _, _ => rfl
  | .int _, _, _ => by simp [expand, conf]
  | .bool, _, _ => rfl
  | .str, _, _ => rfl
  | .arr _ _, _, _ => by simp [expand, conf]
  | .sl _ _, _, _ => by simp [expand, conf]
  | .prod a b, x, hg => by
      have hg' := hg
      simp [Ty.good] at hg
      have hb : b = .unit ∨ ∃ p q, b = .prod p q := by
        cases b <;> simp_all
      exact conf_consN (conf_expand a _ hg.1.1) (conf_expand b _ hg.1.2) (expand_node _ hb hg.1.2)
  | .opq, x, _ => nomatch x
  | .ifc, x, _ => nomatch x

theorem CR.length {c : Cx} : ∀ (t : Ty) (v : V) (cs : List Value), conf t v = true → CR c v cs → cs.length = t.size
  | .unit, v, cs, hc, h => by
      cases v <;> try (simp [conf] at hc; done)
      rename_i vs
      cases vs <;> try (simp [conf] at hc; done)
      simp only [CR, CRs] at h; subst h; rfl
  | .int _, v, cs, hc, h => by cases v <;> simp [conf] at hc; simp only [CR] at h; obtain ⟨rfl, _⟩ := h; rfl
  | .bool, v, cs, hc, h => by cases v <;> simp [conf] at hc; simp only [CR] at h; subst h; rfl
  | .str, v, cs, hc, h => by cases v <;> simp [conf] at hc; simp only [CR] at h; obtain ⟨rfl, _⟩ := h; rfl
  | .arr _ _, v, cs, hc, h => by
      cases v <;> simp [conf] at hc
      simp only [CR] at h; have := h.length; simp [Ty.size, this, hc.1]
  | .sl _ _, v, cs, hc, h => by
      cases v <;> try (simp [conf] at hc; done)
      · simp only [CR] at h; exact Rep.length (.sl .ro _) _ _ h
      · simp only [CR] at h; subst h; rfl
      · simp only [CR] at h; obtain ⟨_, rfl, _⟩ := h; rfl
      · simp only [CR] at h; obtain ⟨_, rfl, _⟩ := h; rfl
  | .prod a b, v, cs, hc, h => by
      cases v <;> try (simp [conf] at hc; done)
      rename_i vs
      cases vs with
      | nil => simp [conf] at hc
      | cons v vs =>
        simp [conf] at hc
        simp only [CR, CRs] at h
        obtain ⟨c1, c2, rfl, h1, h2⟩ := h
        have e1 := CR.length a v c1 hc.1 h1
        have e2 := CR.length b (.node vs) c2 hc.2 (by simpa only [CR] using h2)
        simp [Ty.size, e1, e2]
  | .opq, v, cs, hc, h => by
      cases v <;> try (simp [conf] at hc; done)
      · simp only [CR] at h; obtain ⟨_, rfl, _⟩ := h; rfl
      · simp only [CR] at h; obtain ⟨_, _, _, rfl, _⟩ := h; rfl
      · simp only [CR] at h; subst h; rfl
  | .ifc, v, cs, hc, h => by
      cases v <;> try (simp [conf] at hc; done)
      · simp only [CR] at h; obtain ⟨_, rfl, _⟩ := h; rfl
      · simp only [CR] at h; subst h; rfl

/-- A temporary's value, cell by cell. -/
theorem TR.cells {c : Cx} {t : Ty} {v : V} {x : Value} (hc : conf t v = true) (h : TR c v x) : CR c v x.cells.toList ∧ (x = if t.isAgg then .agg x.cells else x.cells.getD 0 Go.undef) := by
  cases v
  case node vs =>
    obtain ⟨cs, rfl, h⟩ := h
    refine ⟨by simp only [CR]; exact h, ?_⟩
    cases t <;> first | (simp [conf] at hc; done) | simp [Ty.isAgg, Value.cells]
  case arr n k l =>
    obtain ⟨cs, rfl, h⟩ := h
    refine ⟨h, ?_⟩
    cases t <;> first | (simp [conf] at hc; done) | simp [Ty.isAgg, Value.cells]
  case undef => cases t <;> simp [conf] at hc
  case skip => cases t <;> simp [conf] at hc
  case tup => cases t <;> simp [conf] at hc
  all_goals
    simp only [TR, TR1] at h
    have h1 := CR.oneCell _ _ h x (by simp)
    rw [cells_one h1]
    refine ⟨by simpa using h, ?_⟩
    cases t <;> first | (simp [conf] at hc; done) | simp [Ty.isAgg]

/-- And back. -/
theorem TR.of_cells {c : Cx} {t : Ty} {v : V} {cs : List Value} (hc : conf t v = true) (h : CR c v cs) : TR c v (if t.isAgg then .agg cs.toArray else cs.getD 0 Go.undef) := by
  have hlen := CR.length t v cs hc h
  cases v
  case node vs =>
    have : t.isAgg = true := by cases t <;> first | (simp [conf] at hc; done) | rfl
    rw [this]
    exact ⟨cs.toArray, rfl, by simpa only [CR] using h⟩
  case arr n k l =>
    have : t.isAgg = true := by cases t <;> first | (simp [conf] at hc; done) | rfl
    rw [this]
    exact ⟨cs.toArray, rfl, h⟩
  case undef => cases t <;> simp [conf] at hc
  case skip => cases t <;> simp [conf] at hc
  case tup => cases t <;> simp [conf] at hc
  all_goals
    have ha : t.isAgg = false ∧ t.size = 1 := by cases t <;> first | (simp [conf] at hc; done) | exact ⟨rfl, rfl⟩
    rw [ha.1]
    rw [ha.2] at hlen
    obtain ⟨x, rfl⟩ := List.length_eq_one_iff.1 hlen
    simp only [TR, TR1]
    exact h

end Go.Eng
