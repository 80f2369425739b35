/- The engine, part X: calls, what goes in. -/
import Derived.Test.YtnpeafceolodiaaGreatEngW
namespace Go.Eng
open Go.RowKit

/-- Blocks that are lent. -/
def lent (c : Cx) (L : List Nat) (b : Nat) : Prop := ∃ m ∈ L, (c.ρ m).blk = some b

theorem lent.mono {c : Cx} {L L' : List Nat} (h : ∀ m ∈ L, m ∈ L') {b : Nat} (hb : lent c L b) : lent c L' b := by
  obtain ⟨m, h1, h2⟩ := hb; exact ⟨m, h m h1, h2⟩

/-- These name variables of a size that fits. -/
def Small (S : St) (L : List Nat) : Prop := ∀ m ∈ L, ∃ t v, S (.obj m) = .obj t v ∧ t.size ≤ 65536

theorem run_smallVars {α : Type} {S : St} {k : Rd α} {z : α} : ∀ {L : List Nat}, (smallVars L k).run S = some z → Small S L ∧ k.run S = some z
  | [], h => ⟨by intro m hm; simp at hm, h⟩
  | m :: L, h => by
      simp only [smallVars, run_get] at h
      cases hS : S (.obj m) <;> rw [hS] at h <;> simp only [run_fail, reduceCtorEq] at h
      obtain ⟨h1, h2⟩ := run_guard_some.1 h
      obtain ⟨h3, h4⟩ := run_smallVars h2
      refine ⟨fun m' hm => ?_, h4⟩
      rcases List.mem_cons.1 hm with rfl | hm
      · exact ⟨_, _, hS, Nat.le_of_ble_eq_true h1⟩
      · exact h3 m' hm

section
variable {P : Program} {E : Env} {Mu : Nat → Prop} {nt : Nat} {S : St} {c cc : Cx} {a : Act}

theorem takeSl_ro {md : Md} {t : Ty} {v : V} {k : Tk (List t.den)} (hr : (takeSl md t v).run S = some k) (ho : k.own = []) :
    ∃ k', (takeSl .ro t v).run S = some k' ∧ k'.x = k.x ∧ k'.bor = k.bor ∧ k'.vars = k.vars := by
  cases v <;> simp only [takeSl, run_get, run_ret, run_fail, reduceCtorEq, Option.some.injEq] at hr ⊢
  case nils => subst hr; exact ⟨_, rfl, rfl, rfl, rfl⟩
  case sl f t' l =>
    split at hr
    · rename_i e; subst e
      cases md <;> simp only [run_ret, run_fail, reduceCtorEq, Option.some.injEq, run_guard_some] at hr
      · subst hr; exact ⟨_, by simp, rfl, rfl, rfl⟩
      · obtain ⟨_, rfl⟩ := hr; exact ⟨⟨castL rfl l, [], [], [], f⟩, by simp, rfl, rfl, rfl⟩
    · simp at hr
  case own m =>
    cases hS : S (.obj m) <;> rw [hS] at hr <;> simp only [run_fail, reduceCtorEq] at hr
    case arrc f t' l =>
      split at hr
      · rename_i e; subst e
        cases md <;> simp only [run_ret, reduceCtorEq, Option.some.injEq, run_guard_some] at hr
        · subst hr; exact ⟨_, by simp, rfl, rfl, rfl⟩
        · obtain ⟨_, rfl⟩ := hr; exact ⟨⟨castL rfl l, [], [(m, .frzc f t' l)], [], f⟩, by simp, rfl, rfl, rfl⟩
        · obtain ⟨_, rfl⟩ := hr; simp at ho
        · subst hr; simp at ho
      · simp at hr
    case frzc f t' l =>
      split at hr
      · rename_i e; subst e
        cases md <;> simp only [run_ret, run_fail, reduceCtorEq, Option.some.injEq, run_guard_some] at hr
        · subst hr; exact ⟨_, by simp, rfl, rfl, rfl⟩
        · obtain ⟨_, rfl⟩ := hr; exact ⟨⟨castL rfl l, [], [], [], f⟩, by simp, rfl, rfl, rfl⟩
      · simp at hr
  case vsl m p lo hi =>
    cases md
    · exact ⟨k, hr, rfl, rfl, rfl⟩
    all_goals simp at hr

/-- What is looked at: its cells, and where they are. -/
theorem takeSl_where (h : ObjsR Mu S c) {t : Ty} {v : V} {k : Tk (List t.den)} {x : Value} (hr : (takeSl .ro t v).run S = some k) (hx : TR c v x) (hsm : Small S k.vars) :
    ∃ ad r es, x = .slice ad k.x.length (k.x.length + r) ∧ k.x.length ≤ maxLen ∧ RepL (Rep (c.Rf k.fr) c.w t) k.x es ∧
      (k.x ≠ [] → ∃ b o, ad = some ⟨b, o, none⟩ ∧ ∀ j u, es[j]? = some u → (c.R b (o + j) ∨ lent c (k.bor.map (·.1) ++ k.vars) b) ∧ c.w.cell? ⟨b, o + j, none⟩ = some u) := by
  have key : ∀ {f : Bool} {l : List t.den} {x : Value} (L : List Nat), Rep (c.Rf f) c.w (.sl .ro t) l [x] → ∃ ad r es, x = .slice ad l.length (l.length + r) ∧ l.length ≤ maxLen ∧ RepL (Rep (c.Rf f) c.w t) l es ∧
      (l ≠ [] → ∃ b o, ad = some ⟨b, o, none⟩ ∧ ∀ j u, es[j]? = some u → (c.R b (o + j) ∨ lent c L b) ∧ c.w.cell? ⟨b, o + j, none⟩ = some u) := by
    intro f l x L hrep
    simp only [Rep] at hrep
    obtain ⟨h0, ad, r, e, hm⟩ := hrep
    simp at e
    by_cases hne : l = []
    · subst hne
      exact ⟨ad, r, [], e, h0, rfl, fun h => (h rfl).elim⟩
    · obtain ⟨b, off, es, rfl, h1, h2⟩ := hm hne
      exact ⟨_, r, es, e, h0, h1, fun _ => ⟨b, off, rfl, fun j u hj => ⟨.inl (h2 j u hj).1.1, (h2 j u hj).2⟩⟩⟩
  cases v <;> simp only [takeSl, run_get, run_ret, run_fail, reduceCtorEq, Option.some.injEq] at hr
  case nils =>
    subst hr
    exact ⟨none, 0, [], hx.nils, Nat.zero_le _, rfl, fun h => (h rfl).elim⟩
  case sl f t' l =>
    split at hr
    · rename_i e; subst e
      simp only [run_ret, Option.some.injEq, castL_rfl] at hr
      subst hr
      exact key _ hx.sl
    · simp at hr
  case own m =>
    have hob := h.obj m
    have hxo := hx.own
    cases hS : S (.obj m) <;> rw [hS] at hr hob <;> simp only [run_fail, reduceCtorEq] at hr
    case arrc f t' l =>
      split at hr
      · rename_i e; subst e
        simp only [run_ret, Option.some.injEq, castL_rfl] at hr
        subst hr
        cases hρ : c.ρ m <;> rw [hρ] at hob hxo <;> try exact hob.elim
        rename_i b t'' len cap
        cases b with
        | none =>
          obtain ⟨rfl, _, _, rfl, rfl, rfl⟩ := hob
          obtain ⟨ad, hxo⟩ := hxo
          exact ⟨ad, 0, [], hxo, Nat.zero_le _, rfl, fun h => (h rfl).elim⟩
        | some b =>
          obtain ⟨rfl, hg, hz, hlen, h1, h2, _, cells, e, hb, hsz, hrep⟩ := hob
          refine ⟨some ⟨b, 0, none⟩, cap - l.length, _, ?_, by rw [hlen] at h1; exact Nat.le_trans h1 h2, hrep, fun _ => ⟨b, 0, rfl, fun j u hj => ⟨.inr ⟨m, by simp, by rw [hρ]; rfl⟩, ?_⟩⟩⟩
          · rw [show x = _ from hxo, hlen]
            show Value.slice _ l.length cap = Value.slice _ l.length (l.length + (cap - l.length))
            congr 1; omega
          · rw [List.getElem?_take] at hj
            split at hj
            · rw [cell_row hb]; simpa using hj
            · simp at hj
      · simp at hr
    case frzc f t' l =>
      split at hr
      · rename_i e; subst e
        simp only [run_ret, Option.some.injEq, castL_rfl] at hr
        subst hr
        cases hρ : c.ρ m <;> rw [hρ] at hob hxo <;> try exact hob.elim
        rename_i b t'' len cap
        obtain ⟨rfl, _, _, _, hrep⟩ := hob
        exact key _ (hrep x (by cases b <;> exact hxo))
      · simp at hr
  case vsl m p lo hi =>
    cases t <;> simp only [run_fail, reduceCtorEq, run_get] at hr
    rename_i kk
    have hob := h.obj m
    have hxo := hx.vsl
    cases hS : S (.obj m) <;> rw [hS] at hr hob <;> simp only [run_fail, reduceCtorEq, run_bind_some] at hr
    rename_i t z
    obtain ⟨y, hy, hr⟩ := hr
    cases hρ : c.ρ m <;> rw [hρ] at hob hxo <;> try exact hob.elim
    rename_i b t'
    obtain ⟨rfl, hg, hc, cells, e, hb, hcr⟩ := hob
    obtain ⟨off, n, k', ad, cap, hat, hle1, hle2, hxe, had⟩ := hxo
    obtain ⟨q1, q2, q3⟩ := CR.look t' p z y _ off _ hc hcr hat hy
    cases y <;> simp only [run_fail, reduceCtorEq] at hr
    rename_i n2 k2 l
    simp [conf] at q1
    obtain ⟨rfl, rfl⟩ := q1
    split at hr
    · rename_i ek
      subst ek
      simp only [run_ret, Option.some.injEq] at hr
      subst hr
      simp only [CR] at q3
      have hcut := q3.cut (lo := lo) (m := hi - lo) (by omega)
      have hll : l.length = n2 := q3.1
      have hl := length_cut l lo hi (by omega)
      rw [show lo + (hi - lo) = hi by omega] at hcut
      have hrl : ∀ {l : List Int} {cs : List Value} {n : Nat}, RepA n k2 l cs → RepL (Rep (c.Rf false) c.w (.int k2)) l cs := by
        intro l
        induction l with
        | nil => rintro cs n ⟨_, _, rfl⟩; rfl
        | cons x l ih =>
          rintro cs n ⟨h1, h2, rfl⟩
          exact ⟨[.int k2 x], l.map (.int k2), rfl, ⟨rfl, h2 x (by simp)⟩, ih (n := l.length) ⟨rfl, fun y hy => h2 y (by simp [hy]), rfl⟩⟩
      refine ⟨ad, cap, _, ?_, ?_, hrl hcut, fun hne => ⟨b, off + lo, had ?_, fun j u hj => ⟨.inr ⟨m, by simp, by rw [hρ]; rfl⟩, ?_⟩⟩⟩
      · rw [hxe]
        show _ = Value.slice ad (Eng.cut l lo hi).length ((Eng.cut l lo hi).length + cap)
        rw [hl]
      · show (Eng.cut l lo hi).length ≤ maxLen
        rw [hl]
        obtain ⟨t'', v'', e1, e2⟩ := hsm m (by simp)
        rw [hS] at e1
        cases e1
        have := Ty.at_le _ _ _ _ hat
        simp only [Ty.size] at this
        unfold maxLen; omega
      · apply Classical.byContradiction
        intro hh
        exact hne (List.eq_nil_of_length_eq_zero (by show (Eng.cut l lo hi).length = 0; rw [hl]; omega))
      · have h1 := getElem?_cut hj
        have h2 := getElem?_cut h1
        rw [cell_row hb, ← h2]; congr 1; omega
    · simp at hr

/-- A later look, in which all that is lent stays. -/
structure Lend (c cc : Cx) (L : List Nat) : Prop where
  w : cc.w = c.w
  more : ∀ b o, c.R b o → cc.R b o
  lent : ∀ b, lent c L b → ∀ o, cc.R b o

theorem Lend.rep {L : List Nat} (h : Lend c cc L) {f : Bool} {t : Ty} {x : t.den} {cs : List Value} (hr : Rep (c.Rf f) c.w t x cs) : Rep (cc.Rf false) cc.w t x cs := by
  rw [h.w]
  exact Rep.later (fun b o hr => ⟨h.more b o hr.1, by simp⟩) (fun _ _ _ _ hc => hc) t x cs hr

theorem conf_sl_one {c : Cx} {t : Ty} {md : Md} {v : V} {cs : List Value} (hc : conf (.sl md t) v = true) (h : CR c v cs) : ∃ x, cs = [x] ∧ TR c v x := by
  have hl := CR.length _ _ _ hc h
  match cs, hl with
  | [x], _ =>
    refine ⟨x, rfl, ?_⟩
    cases v <;> simp [conf] at hc <;> exact h

theorem takeV_lend (h : ObjsR Mu S c) {L : List Nat} (hl : Lend c cc L) : ∀ {t : Ty} {v : V} {k : Tk t.den} {cs : List Value}, (takeV t v).run S = some k → CR c v cs → k.own = [] → Small S k.vars → (∀ m ∈ k.bor.map (·.1) ++ k.vars, m ∈ L) → Rep (cc.Rf false) cc.w t k.x cs
  | .unit, v, k, cs, hr, hc, _, _, _ => by
      obtain ⟨rfl, rfl⟩ := takeUnit_some hr
      simpa [CR, CRs, Rep] using hc
  | .int _, v, k, cs, hr, hc, _, _, _ => by
      obtain ⟨_, rfl, rfl⟩ := takeInt_some hr
      simpa [CR, Rep] using hc
  | .bool, v, k, cs, hr, hc, _, _, _ => by
      obtain ⟨_, rfl, rfl⟩ := takeBool_some hr
      simpa [CR, Rep] using hc
  | .str, v, k, cs, hr, hc, _, _, _ => by
      obtain ⟨_, rfl, rfl⟩ := takeStr_some hr
      simpa [CR, Rep] using hc
  | .arr _ _, v, k, cs, hr, hc, _, _, _ => by
      obtain ⟨_, rfl, rfl⟩ := takeArr_some hr
      simpa [CR, Rep] using hc
  | .sl md t, v, k, cs, hr, hc, ho, hs, hL => by
      have hcf := takeV_conf hr
      obtain ⟨x, rfl, hx⟩ := conf_sl_one hcf hc
      obtain ⟨k', hr', e1, e2, e3⟩ := takeSl_ro (show (takeSl md t v).run S = some k from hr) ho
      obtain ⟨ad, r, es, q1, q2, q3, q4⟩ := takeSl_where h hr' hx (by rw [e3]; exact hs)
      rw [e1] at q1 q2 q3 q4
      rw [e2, e3] at q4
      refine ⟨q2, ad, r, by rw [q1], fun hne => ?_⟩
      obtain ⟨b, o, rfl, hm⟩ := q4 hne
      refine ⟨b, o, es, rfl, ?_, fun j u hj => ?_⟩
      · exact q3.mono fun x cs hh => hl.rep hh
      · obtain ⟨h1, h2⟩ := hm j u hj
        rw [hl.w]
        exact ⟨⟨h1.elim (hl.more _ _) fun hh => hl.lent b (hh.mono hL) _, by simp⟩, h2⟩
  | .prod a b, v, k, cs, hr, hc, ho, hs, hL => by
      obtain ⟨u, vs, x, y, rfl, h1, h2, rfl⟩ := takeProd_some hr
      simp at ho
      simp only [CR, CRs] at hc
      obtain ⟨c1, c2, rfl, q1, q2⟩ := hc
      exact ⟨c1, c2, rfl, takeV_lend h hl h1 q1 ho.1 (fun m hm => hs m (by simp [hm])) (fun m hm => hL m (by simp only [List.mem_append, List.map_append] at hm ⊢; exact hm.elim (fun h => .inl (.inl h)) (fun h => .inr (.inl h)))),
        takeV_lend h hl h2 (by simpa only [CR] using q2) ho.2 (fun m hm => hs m (by simp [hm])) (fun m hm => hL m (by simp only [List.mem_append, List.map_append] at hm ⊢; exact hm.elim (fun h => .inl (.inr h)) (fun h => .inr (.inr h))))⟩
  | .opq, v, k, cs, hr, _, _, _, _ => nomatch k.x
  | .ifc, v, k, cs, hr, _, _, _, _ => nomatch k.x

theorem derefV_where (h : ObjsR Mu S c) {m : Nat} {p : List Nat} {x : Value} (hp : RefPtr (c.ρ m) p x) {u : Ty} {v : V} (hr : (derefV m p).run S = some (u, v)) :
    ∃ b o cs, Stands c x u v b o cs ∧ ∀ j y, cs[j]? = some y → c.R b (o + j) ∨ (c.ρ m).blk = some b := by
  have ho := h.obj m
  simp only [derefV, run_get] at hr
  cases hS : S (.obj m) <;> rw [hS] at hr ho <;> try (simp at hr; done)
  case obj t z =>
    cases hρ : c.ρ m <;> rw [hρ] at ho hp <;> try exact ho.elim
    rename_i b t'
    obtain ⟨rfl, hg, hc, cells, e, hb, hcr⟩ := ho
    obtain ⟨o, u', ha, rfl⟩ := hp
    simp only [Ty.tyAt_of ha, run_bind_some, run_ret, Option.some.injEq, Prod.mk.injEq] at hr
    obtain ⟨y, hy, rfl, rfl⟩ := hr
    obtain ⟨q1, q2, q3⟩ := CR.look t' p z y _ o u' hc hcr ha hy
    refine ⟨b, o, _, ⟨rfl, q1, q3, ?_, ?_⟩, fun _ _ _ => .inr rfl⟩
    · exact CR.length _ _ _ q1 q3
    · intro j w hw
      rw [cell_row hb]; exact getElem?_cut hw
  case arrc f t l =>
    match p with
    | [] => simp at hr
    | i :: q =>
      cases hρ : c.ρ m <;> rw [hρ] at ho hp <;> try exact ho.elim
      rename_i b t' len cap
      cases b with
      | none => exact hp.elim
      | some b =>
        obtain ⟨rfl, hg, hz, h1, h2, h3, h4, cells, e, hb, hsz, hrep⟩ := ho
        obtain ⟨i', q', o, u', e', hi, ha, rfl⟩ := hp
        cases e'
        simp only [Ty.tyAt_of ha, run_opt_some, run_bind_some, run_ret, Option.some.injEq, Prod.mk.injEq] at hr
        obtain ⟨el, hel, y, hy, rfl, rfl⟩ := hr
        obtain ⟨r1, r2⟩ := RepL.get (fun x cs => Rep.length t' x cs) hrep hel
        obtain ⟨q1, q2, q3⟩ := CR.look t' q _ y _ o u' (conf_expand t' el hg) (CR.expand t' el _ r1) ha hy
        refine ⟨b, i * t'.size + o, _, ⟨rfl, q1, q3, CR.length _ _ _ q1 q3, ?_⟩, fun _ _ _ => .inr rfl⟩
        intro j w hw
        have := getElem?_cut (getElem?_cut hw)
        rw [List.getElem?_take] at this
        rw [cell_row hb]
        split at this
        · rw [← this]; congr 1; omega
        · simp at this
  case frzc f t l =>
    match p with
    | [] => simp at hr
    | i :: q =>
      cases hρ : c.ρ m <;> rw [hρ] at ho hp <;> try exact ho.elim
      rename_i b t' len cap
      cases b with
      | none => exact hp.elim
      | some b =>
        obtain ⟨rfl, hg, _, h1, hrep⟩ := ho
        obtain ⟨i', q', o, u', e', hi, ha, rfl⟩ := hp
        cases e'
        simp only [Ty.tyAt_of ha, run_opt_some, run_bind_some, run_ret, Option.some.injEq, Prod.mk.injEq] at hr
        obtain ⟨el, hel, y, hy, rfl, rfl⟩ := hr
        have hrep := hrep _ rfl
        simp only [Rep] at hrep
        obtain ⟨_, ad, cap', e1, hmem⟩ := hrep
        have hne : l ≠ [] := by rintro rfl; simp at hel
        obtain ⟨b', o', es, rfl, hl, hm⟩ := hmem hne
        simp at e1
        obtain ⟨⟨rfl, rfl⟩, _⟩ := e1
        obtain ⟨r1, r2⟩ := RepL.get (fun x cs => Rep.length t' x cs) hl hel
        obtain ⟨q1, q2, q3⟩ := CR.look t' q _ y _ o u' (conf_expand t' el hg) (CR.expand t' el _ r1) ha hy
        refine ⟨b, i * t'.size + o, _, ⟨rfl, q1, q3, CR.length _ _ _ q1 q3, ?_⟩, ?_⟩
        · intro j w hw
          have := getElem?_cut (getElem?_cut hw)
          have := (hm _ _ this).2
          rw [← this]; congr 2; omega
        · intro j w hw
          left
          have := getElem?_cut (getElem?_cut hw)
          have := (hm _ _ this).1.1
          rw [show i * t'.size + o + j = 0 + (i * t'.size + (o + j)) by omega]
          exact this

/-- Under which names a call's written places are. -/
def Pls (c cc : Cx) (pars : List Nat) (pls : List (Nat × Ty × Bool)) : Prop := ∀ (j m : Nat) (p : Nat × Ty × Bool), pars[j]? = some m → pls[j]? = some p → cc.ρ m = c.ρ p.1
/-- What is known of places. -/
def PlOk (S : St) : List PK → List (Nat × Ty × Bool) → Prop
  | [], pls => pls = []
  | .val _ :: ks, pls => PlOk S ks pls
  | .rptr _ :: ks, pls => PlOk S ks pls
  | .ptr t :: ks, pls => ∃ p ps, pls = p :: ps ∧ p.2.1 = t.plain ∧ (∃ v, S (.obj p.1) = .obj t.plain v) ∧ PlOk S ks ps
  | .mut t :: ks, pls => ∃ p ps, pls = p :: ps ∧ (∃ l, S (.obj p.1) = .arrc p.2.2 t l) ∧ PlOk S ks ps

def ownsP : List PK → Nat
  | [] => 0
  | .ptr t :: ks => t.owns + ownsP ks
  | _ :: ks => ownsP ks

/-- Parameters that can be handed over. -/
def goodA : List PK → Bool
  | [] => true
  | .val t :: ks | .rptr t :: ks => t.good && goodA ks
  | .ptr t :: ks => t.plain.good && goodA ks
  | .mut t :: ks => t.good && !Nat.beq t.size 0 && goodA ks

theorem Pls.tail {pars : List Nat} {m : Nat} {p : Nat × Ty × Bool} {pls : List (Nat × Ty × Bool)} (h : Pls c cc (m :: pars) (p :: pls)) : Pls c cc pars pls :=
  fun j m' p' h1 h2 => h (j + 1) m' p' (by simpa using h1) (by simpa using h2)

/-- What a callee finds. -/
structure Found (c cc : Cx) (ks : List PK) (x : DP ks) (i n : Nat) (xs : List Value) : Prop where
  tmp : ∀ t, TR cc (startS ks x i n (.tmp (i + t))) (xs.getD t undef)
  obj : ∀ m, (m ∈ parsOf ks i ∨ inNew n (ownsP ks) m) → ObjR cc (startS ks x i n (.obj m)) (cc.ρ m)
  out : ∀ m, ¬ (m ∈ parsOf ks i ∨ inNew n (ownsP ks) m) → startS ks x i n (.obj m) = .undef

theorem Found.tmp_cons {ks : List PK} {S : St} {i : Nat} {v : V} {x : Value} {xs : List Value} (h0 : TR cc v x) (h : ∀ t, TR cc (S (.tmp (i + 1 + t))) (xs.getD t undef)) :
    ∀ t, TR cc ((S.set (.tmp i) v) (.tmp (i + t))) ((x :: xs).getD t undef) := by
  intro t
  cases t with
  | zero => rw [Nat.add_zero, St.set_same]; exact h0
  | succ t =>
    rw [St.set_other _ _ _ _ (by simp)]
    have := h t
    rw [show i + 1 + t = i + (t + 1) by omega] at this
    exact this

theorem call_ind (h : ObjsR Mu S c) (L : List Nat) : ∀ (ks : List PK) (vs : List V) (xs : List Value) (y : Tp (DP ks)) (i n : Nat), goodA ks = true → (takeP ks vs).run S = some y → TRv c vs xs → (∀ m ∈ y.bor.map (·.1) ++ y.vars, m ∈ L) →
    ∃ refs, Refs c y.own refs ∧ refs.length = ownsP ks ∧ PlOk S ks y.places ∧ xs.length = ks.length ∧ Bor S y.bor ∧
      ∀ cc, Moves c cc → Lend c cc L → Fits c cc (y.own ++ y.places.map (·.1)) → Named cc n refs → Pls c cc (parsOf ks i) y.places → (∀ m ∈ parsOf ks i, ¬ inNew n (ownsP ks) m) → Found c cc ks y.x i n xs
  | [], [], xs, y, i, n, _, hr, hx, _ => by
      simp [takeP] at hr; subst hr
      match xs, hx with
      | [], _ =>
        refine ⟨[], .nil c, rfl, rfl, rfl, .nil, fun cc _ _ _ _ _ _ => ⟨fun t => trivial, fun m hm => ?_, fun m _ => rfl⟩⟩
        rcases hm with hm | hm
        · simp [parsOf] at hm
        · simp [inNew, ownsP] at hm; omega
  | [], _ :: _, _, _, _, _, _, hr, _, _ => by simp [takeP] at hr
  | .val _ :: _, [], _, _, _, _, _, hr, _, _ => by simp [takeP] at hr
  | .rptr _ :: _, [], _, _, _, _, _, hr, _, _ => by simp [takeP] at hr
  | .ptr _ :: _, [], _, _, _, _, _, hr, _, _ => by simp [takeP] at hr
  | .mut _ :: _, [], _, _, _, _, _, hr, _, _ => by simp [takeP] at hr
  | .val t :: ks, v :: vs, xs, y, i, n, hg, hr, hx, hL => by
      simp only [goodA, Bool.and_eq_true] at hg
      obtain ⟨x, xs', rfl, hx0, hx1⟩ := hx.cons
      simp only [takeP, run_bind_some] at hr
      obtain ⟨k, h1, hr⟩ := hr
      obtain ⟨hs, hr⟩ := run_smallVars hr
      obtain ⟨z, h2, hr⟩ := run_bind_some.1 hr
      split at hr
      · rename_i ho
        simp only [run_ret, Option.some.injEq] at hr
        subst hr
        obtain ⟨refs, q1, q2, q3, q4, q5, q6⟩ := call_ind h L ks vs xs' z (i + 1) n hg.2 h2 hx1 (fun m hm => hL m (by simp only [List.mem_append, List.map_append] at hm ⊢; exact hm.elim (fun h => .inl (.inr h)) (fun h => .inr (.inr h))))
        refine ⟨refs, q1, q2, q3, by simp [q4], (takeV_bor h1).append q5, fun cc hm hl hf hn hp hd => ?_⟩
        have F := q6 cc hm hl hf hn hp hd
        have hcf := takeV_conf h1
        have hcr := (hx0.cells hcf).1
        have hrep := takeV_lend h hl h1 hcr ho hs (fun m hm => hL m (by simp only [List.mem_append, List.map_append] at hm ⊢; exact hm.elim (fun h => .inl (.inl h)) (fun h => .inr (.inl h))))
        refine ⟨Found.tmp_cons (ks := ks) (hx0.again hcf (conf_expand t k.x hg.1) (CR.expand t k.x _ hrep)) F.tmp, fun m hm' => ?_, fun m hm' => ?_⟩
        · simp only [startS]
          rw [St.set_other _ _ _ _ (by simp)]; exact F.obj m hm'
        · simp only [startS]
          rw [St.set_other _ _ _ _ (by simp)]; exact F.out m hm'
      · simp at hr
  | .rptr t :: ks, v :: vs, xs, y, i, n, hg, hr, hx, hL => by
      simp only [goodA, Bool.and_eq_true] at hg
      obtain ⟨x, xs', rfl, hx0, hx1⟩ := hx.cons
      cases v <;> simp only [takeP, run_fail, reduceCtorEq] at hr
      case eptr f t' e =>
        split at hr
        · rename_i et; subst et
          obtain ⟨z, h2, hr⟩ := run_bind_some.1 hr
          simp only [run_ret, Option.some.injEq, castD_rfl] at hr
          subst hr
          obtain ⟨refs, q1, q2, q3, q4, q5, q6⟩ := call_ind h L ks vs xs' z (i + 1) n hg.2 h2 hx1 hL
          refine ⟨refs, q1, q2, q3, by simp [q4], q5, fun cc hm hl hf hn hp hd => ?_⟩
          have F := q6 cc hm hl hf hn hp hd
          obtain ⟨b, o, es, rfl, r1, r2⟩ := hx0.eptr
          refine ⟨Found.tmp_cons (ks := ks) ?_ F.tmp, fun m hm' => ?_, fun m hm' => ?_⟩
          · simp only [TR, TR1, CR]
            refine ⟨b, o, es, rfl, hl.rep r1, fun j u hj => ?_⟩
            rw [hl.w]
            exact ⟨⟨hl.more _ _ (r2 j u hj).1.1, by simp⟩, (r2 j u hj).2⟩
          · simp only [startS]
            rw [St.set_other _ _ _ _ (by simp)]; exact F.obj m hm'
          · simp only [startS]
            rw [St.set_other _ _ _ _ (by simp)]; exact F.out m hm'
        · simp at hr
      case ptr m p =>
        obtain ⟨⟨u, w⟩, h0, hr⟩ := run_bind_some.1 hr
        simp only at hr
        split at hr
        · rename_i et; subst et
          obtain ⟨k, h1, hr⟩ := run_bind_some.1 hr
          obtain ⟨hs, hr⟩ := run_smallVars hr
          obtain ⟨z, h2, hr⟩ := run_bind_some.1 hr
          split at hr
          · rename_i ho
            simp only [run_ret, Option.some.injEq] at hr
            subst hr
            have hLk : ∀ m ∈ k.bor.map (·.1) ++ k.vars, m ∈ L := fun m' hm => hL m' (by simp only [List.mem_append, List.map_append, List.mem_cons] at hm ⊢; exact hm.elim (fun h => .inl (.inl h)) (fun h => .inr (.inl (.inr h))))
            have hLm : m ∈ L := hL m (by simp)
            obtain ⟨refs, q1, q2, q3, q4, q5, q6⟩ := call_ind h L ks vs xs' z (i + 1) n hg.2 h2 hx1 (fun m' hm => hL m' (by simp only [List.mem_append, List.map_append, List.mem_cons] at hm ⊢; exact hm.elim (fun h => .inl (.inr h)) (fun h => .inr (.inr h))))
            refine ⟨refs, q1, q2, q3, by simp [q4], (takeV_bor h1).append q5, fun cc hm hl hf hn hp hd => ?_⟩
            have F := q6 cc hm hl hf hn hp hd
            obtain ⟨b, o, cs, hst, hwh⟩ := derefV_where h hx0.ptr h0
            have hrep := takeV_lend h hl h1 hst.cr ho hs hLk
            refine ⟨Found.tmp_cons (ks := ks) ?_ F.tmp, fun m hm' => ?_, fun m hm' => ?_⟩
            · simp only [TR, TR1, CR]
              refine ⟨b, o, cs, by rw [hst.ptr], hrep, fun j u hj => ?_⟩
              rw [hl.w]
              exact ⟨⟨(hwh j u hj).elim (hl.more _ _) fun hb => hl.lent b ⟨m, hLm, hb⟩ _, by simp⟩, hst.mem j u hj⟩
            · simp only [startS]
              rw [St.set_other _ _ _ _ (by simp)]; exact F.obj m hm'
            · simp only [startS]
              rw [St.set_other _ _ _ _ (by simp)]; exact F.out m hm'
          · simp at hr
        · simp at hr
  | .ptr t :: ks, v :: vs, xs, y, i, n, hg, hr, hx, hL => by
      simp only [goodA, Bool.and_eq_true] at hg
      obtain ⟨x, xs', rfl, hx0, hx1⟩ := hx.cons
      cases v <;> try (simp [takeP] at hr; done)
      rename_i m p
      cases p <;> try (simp [takeP] at hr; done)
      simp only [takeP, run_get] at hr
      cases hS : S (.obj m) <;> rw [hS] at hr <;> simp only [run_fail, reduceCtorEq] at hr
      rename_i t' u
      split at hr
      · rename_i et; subst et
        obtain ⟨k, h1, hr⟩ := run_bind_some.1 hr
        obtain ⟨z, h2, hr⟩ := run_bind_some.1 hr
        split at hr
        · rename_i hb hv
          simp only [run_ret, Option.some.injEq] at hr
          subst hr
          have hob := h.obj m
          rw [hS] at hob
          cases hρ : c.ρ m <;> rw [hρ] at hob <;> try exact hob.elim
          rename_i b t'
          obtain ⟨rfl, _, hcu, cells, e, hbb, hcr⟩ := hob
          obtain ⟨v', d1, r1, e1, l1, l1', k1, f1, m1⟩ := (put_move h n hg.1 h1 hb hv hcr).len
          obtain ⟨refs, q1, q2, q3, q4, q5, q6⟩ := call_ind h L ks vs xs' z (i + 1) (n + t.owns) hg.2 h2 hx1 hL
          refine ⟨r1 ++ refs, f1.append q1, by simp [l1', q2, ownsP], ⟨_, _, rfl, rfl, ⟨u, hS⟩, q3⟩, by simp [q4], q5, fun cc hm hl hf hn hp hd => ?_⟩
          have hm0 : cc.ρ (parName + i) = c.ρ m := hp 0 _ _ rfl rfl
          obtain ⟨p1, p2⟩ := m1 cc hm (fun m hm' => hf m (by simp at hm' ⊢; simp [hm'])) hn.left
          have F := q6 cc hm hl (fun m hm' => hf m (by simp only [List.mem_append, List.map_cons, List.mem_cons] at hm' ⊢; exact hm'.elim (fun h => .inl (.inr h)) (fun h => .inr (.inr h)))) (by rw [← l1']; exact hn.right) hp.tail
            (fun m' hm' hh => hd m' (by simp only [parsOf, List.mem_cons]; exact .inr hm') (by simp only [inNew, ownsP] at hh ⊢; omega))
          have hd0 := hd (parName + i) (by simp [parsOf])
          have hcv : conf t.plain v' = true := by
            have := conf_putV k.x n hg.1
            rw [e1] at this; exact this
          have hst : startS (.ptr t :: ks) (k.x, z.x) i n = ((((startS ks z.x (i + 1) (n + t.owns)).apply d1).set (.tmp i) (.ptr (parName + i) [])).set (.obj (parName + i)) (.obj t.plain v')) := by
            simp only [startS, e1]
          refine ⟨?_, fun m' hm' => ?_, fun m' hm' => ?_⟩
          · rw [hst]
            intro s
            rw [St.set_other _ _ _ _ (by simp)]
            refine Found.tmp_cons (ks := ks) ?_ (fun s => ?_) s
            · simp only [TR, TR1, CR]
              refine ⟨x, rfl, ?_⟩
              rw [hm0]; exact hx0.ptr
            · rw [apply_keys d1 n _ _ k1]; exact F.tmp s
          · rw [hst]
            by_cases e0 : m' = parName + i
            · subst e0
              rw [St.set_same, hm0, hρ]
              exact ⟨rfl, hg.1, hcv, cells, e, by rw [hm.w]; exact hbb, p1⟩
            · rw [St.set_other _ _ _ _ (by simpa using e0), St.set_other _ _ _ _ (by simp), apply_keys d1 n _ _ k1]
              simp only [l1]
              by_cases hin : n ≤ m' ∧ m' < n + t.owns
              · rw [if_pos hin]
                have hlt : m' - n < d1.length := by omega
                have := p2 (m' - n) d1[m' - n] (by simp [hlt])
                rw [show n + (m' - n) = m' by omega] at this
                simpa [hlt] using this
              · rw [if_neg hin]
                refine F.obj m' ?_
                rcases hm' with hm' | hm'
                · simp only [parsOf, List.mem_cons] at hm'
                  exact .inl (hm'.resolve_left e0)
                · right
                  simp only [inNew, ownsP] at hm' ⊢
                  omega
          · rw [hst]
            have e0 : m' ≠ parName + i := by rintro rfl; exact hm' (.inl (by simp [parsOf]))
            rw [St.set_other _ _ _ _ (by simpa using e0), St.set_other _ _ _ _ (by simp), apply_keys d1 n _ _ k1]
            simp only [l1]
            have hin : ¬ (n ≤ m' ∧ m' < n + t.owns) := fun hh => hm' (.inr (by simp only [inNew, ownsP]; omega))
            rw [if_neg hin]
            refine F.out m' fun hh => hm' ?_
            rcases hh with hh | hh
            · exact .inl (by simp [parsOf, hh])
            · right; simp only [inNew, ownsP] at hh ⊢; omega
        · simp at hr
      · simp at hr
  | .mut t :: ks, v :: vs, xs, y, i, n, hg, hr, hx, hL => by
      simp only [goodA, Bool.and_eq_true] at hg
      obtain ⟨x, xs', rfl, hx0, hx1⟩ := hx.cons
      cases v <;> try (simp [takeP] at hr; done)
      rename_i m
      simp only [takeP, run_get] at hr
      cases hS : S (.obj m) <;> rw [hS] at hr <;> simp only [run_fail, reduceCtorEq] at hr
      rename_i f t' l
      split at hr
      · rename_i et; subst et
        obtain ⟨z, h2, hr⟩ := run_bind_some.1 hr
        simp only [run_ret, Option.some.injEq, castL_rfl] at hr
        subst hr
        obtain ⟨refs, q1, q2, q3, q4, q5, q6⟩ := call_ind h L ks vs xs' z (i + 1) n hg.2 h2 hx1 hL
        refine ⟨refs, q1, q2, ⟨_, _, rfl, ⟨l, hS⟩, q3⟩, by simp [q4], q5, fun cc hm hl hf hn hp hd => ?_⟩
        have hm0 : cc.ρ (parName + i) = c.ρ m := hp 0 _ _ rfl rfl
        have F := q6 cc hm hl (fun m hm' => hf m (by simp only [List.mem_append, List.map_cons, List.mem_cons] at hm' ⊢; exact hm'.elim (fun h => .inl h) (fun h => .inr (.inr h)))) hn hp.tail
            (fun m' hm' hh => hd m' (by simp only [parsOf, List.mem_cons]; exact .inr hm') hh)
        have hst : startS (.mut t' :: ks) (l, z.x) i n = (((startS ks z.x (i + 1) n).set (.tmp i) (.own (parName + i))).set (.obj (parName + i)) (.arrc false t' l)) := rfl
        refine ⟨?_, fun m' hm' => ?_, fun m' hm' => ?_⟩
        · rw [hst]
          intro s
          rw [St.set_other _ _ _ _ (by simp)]
          refine Found.tmp_cons (ks := ks) ?_ F.tmp s
          simp only [TR, TR1, CR]
          refine ⟨x, rfl, ?_⟩
          rw [hm0]; exact hx0.own
        · rw [hst]
          by_cases e0 : m' = parName + i
          · subst e0
            rw [St.set_same, hm0]
            exact hm.arrc h hS (hf m (by simp)) (by simp)
          · rw [St.set_other _ _ _ _ (by simpa using e0), St.set_other _ _ _ _ (by simp)]
            refine F.obj m' (hm'.imp (fun hm' => ?_) id)
            simp only [parsOf, List.mem_cons] at hm'
            exact hm'.resolve_left e0
        · rw [hst]
          have e0 : m' ≠ parName + i := by rintro rfl; exact hm' (.inl (by simp [parsOf]))
          rw [St.set_other _ _ _ _ (by simpa using e0), St.set_other _ _ _ _ (by simp)]
          exact F.out m' fun hh => hm' (hh.imp (fun hh => by simp [parsOf, hh]) id)
      · simp at hr

end
end Go.Eng
