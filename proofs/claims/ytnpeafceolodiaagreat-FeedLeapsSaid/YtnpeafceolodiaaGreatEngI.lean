/- The engine, part I: stores. -/
import Derived.Test.YtnpeafceolodiaaGreatEngH
namespace Go.Eng
open Go.RowKit

theorem row_put {α : Type} (L ms : List α) (a sz o us N : Nat) (h1 : a + sz ≤ N) (h2 : N ≤ L.length) (h3 : o + us ≤ sz) (h4 : ms.length = us) :
    (L.take (a + o) ++ ms ++ L.drop (a + o + us)).take N =
      (L.take N).take a ++ (((((L.take N).drop a).take sz).take o ++ ms ++ (((L.take N).drop a).take sz).drop (o + us))) ++ (L.take N).drop (a + sz) := by
  apply List.ext_getElem?
  intro j
  simp only [List.getElem?_append, List.getElem?_take, List.getElem?_drop, List.length_append, List.length_take, List.length_drop, h4]
  by_cases c1 : j < N <;> by_cases c2 : j < a <;> by_cases c3 : j < a + o <;> by_cases c4 : j < a + o + us <;> by_cases c5 : j < a + sz <;> first | omega | skip
  all_goals
    simp (disch := omega) only [if_pos, if_neg, Nat.min_eq_left]
    try (congr 1; omega)

theorem gatherSl_rep {c : Cx} {f : Bool} {t : Ty} {v : V} {l : List t.den} {cs : List Value} (hg : gatherSl f t v = some l) (h : CR c v cs) : Rep (c.Rf f) c.w (.sl .ro t) l cs := by
  cases v <;> try (simp [gatherSl] at hg; done)
  case sl f' t' l' =>
    simp only [gatherSl] at hg
    split at hg
    · rename_i e; subst e
      simp only [CR] at h
      cases hf : (f' || !f) <;> simp [hf] at hg
      subst hg
      exact Rep.weaken (f := f') (f' := f) (by cases f' <;> cases f <;> simp_all) h
    · simp at hg
  case nils =>
    simp [gatherSl] at hg; subst hg
    simp only [CR] at h; subst h
    simp only [Rep]
    exact ⟨Nat.zero_le _, none, 0, rfl, fun hne => (hne rfl).elim⟩

theorem nodeO_some {α : Type} {k : V → List V → Option α} {v : V} {z : α} (h : nodeO k v = some z) : ∃ u vs, v = .node (u :: vs) ∧ k u vs = some z := by
  cases v <;> try (simp [nodeO] at h; done)
  rename_i vs
  cases vs with
  | nil => simp [nodeO] at h
  | cons u vs => exact ⟨u, vs, rfl, h⟩

theorem gUnit_some {v : V} {x : Unit} (h : gUnit v = some x) : v = .node [] := by
  cases v <;> try (simp [gUnit] at h; done)
  rename_i vs
  cases vs with
  | nil => rfl
  | cons _ _ => simp [gUnit] at h
theorem gInt_some {k : IntKind} {v : V} {x : Int} (h : gInt k v = some x) : v = .int k x := by
  cases v <;> try (simp [gInt] at h; done)
  simp only [gInt] at h
  split at h
  · rename_i e; subst e; cases h; rfl
  · simp at h
theorem gBool_some {v : V} {x : Bool} (h : gBool v = some x) : v = .bool x := by
  cases v <;> try (simp [gBool] at h; done)
  cases h; rfl
theorem gStr_some {v : V} {x : ByteArray} (h : gStr v = some x) : v = .str x := by
  cases v <;> try (simp [gStr] at h; done)
  cases h; rfl
theorem gArr_some {n : Nat} {k : IntKind} {v : V} {x : List Int} (h : gArr n k v = some x) : v = .arr n k x := by
  cases v <;> try (simp [gArr] at h; done)
  simp only [gArr] at h
  split at h
  · rename_i e; obtain ⟨rfl, rfl⟩ := e; cases h; rfl
  · simp at h
theorem gProd_some {f : Bool} {a b : Ty} {v : V} {x : (Ty.prod a b).den} (h : gatherF f (.prod a b) v = some x) : ∃ u vs y z, v = .node (u :: vs) ∧ gatherF f a u = some y ∧ gatherF f b (.node vs) = some z ∧ x = (y, z) := by
  obtain ⟨u, vs, rfl, hk⟩ := nodeO_some h
  obtain ⟨y, h1, hk⟩ := Option.bind_eq_some_iff.1 hk
  obtain ⟨z, h2, hk⟩ := Option.map_eq_some_iff.1 hk
  exact ⟨u, vs, y, z, rfl, h1, h2, hk.symm⟩

theorem gatherF_rep {c : Cx} {f : Bool} : ∀ {t : Ty} {v : V} {x : t.den} {cs : List Value}, gatherF f t v = some x → CR c v cs → Rep (c.Rf f) c.w t x cs
  | .unit, v, x, cs, hg, h => by cases gUnit_some hg; simpa [CR, CRs, Rep] using h
  | .int k, v, x, cs, hg, h => by cases gInt_some hg; simpa [CR, Rep] using h
  | .bool, v, x, cs, hg, h => by cases gBool_some hg; simpa [CR, Rep] using h
  | .str, v, x, cs, hg, h => by cases gStr_some hg; simpa [CR, Rep] using h
  | .arr n k, v, x, cs, hg, h => by cases gArr_some hg; simpa [CR, Rep] using h
  | .sl _ t, v, x, cs, hg, h => gatherSl_rep hg h
  | .prod a b, v, x, cs, hg, h => by
      obtain ⟨u, vs, y, z, rfl, h1, h2, rfl⟩ := gProd_some hg
      simp only [CR, CRs] at h
      obtain ⟨c1, c2, rfl, q1, q2⟩ := h
      exact ⟨c1, c2, rfl, gatherF_rep h1 q1, gatherF_rep h2 (by simpa only [CR] using q2)⟩
  | .opq, v, x, cs, hg, h => nomatch x
  | .ifc, v, x, cs, hg, h => nomatch x

section
variable {S : St}
theorem takeSl_conf {md md' : Md} {t : Ty} {v : V} {k : Tk (List t.den)} (hr : (takeSl md t v).run S = some k) : conf (.sl md' t) v = true := by
  cases v <;> try (simp [takeSl] at hr; done)
  case nils => rfl
  case sl f t' l =>
    simp only [takeSl] at hr
    split at hr
    · rename_i e; subst e; simp [conf]
    · simp at hr
  case own m => rfl
  case vsl m p lo hi => rfl
theorem takeV_conf : ∀ {t : Ty} {v : V} {k : Tk t.den}, (takeV t v).run S = some k → conf t v = true
  | .unit, v, k, hr => by obtain ⟨rfl, _⟩ := takeUnit_some hr; rfl
  | .int _, v, k, hr => by obtain ⟨_, rfl, _⟩ := takeInt_some hr; simp [conf]
  | .bool, v, k, hr => by obtain ⟨_, rfl, _⟩ := takeBool_some hr; rfl
  | .str, v, k, hr => by obtain ⟨_, rfl, _⟩ := takeStr_some hr; rfl
  | .arr _ _, v, k, hr => by obtain ⟨_, rfl, _⟩ := takeArr_some hr; simp [conf]
  | .sl md t, v, k, hr => takeSl_conf hr
  | .prod a b, v, k, hr => by
      obtain ⟨u, vs, x, y, rfl, h1, h2, _⟩ := takeProd_some hr
      simp [conf, takeV_conf h1, takeV_conf h2]
  | .opq, v, k, hr => nomatch k.x
  | .ifc, v, k, hr => nomatch k.x
end

section
variable {P : Program} {E : Env} {Mu : Nat → Prop} {nt : Nat} {S : St} {c : Cx} {a : Act} {o : Oper} {δ : List (Loc × V)}

theorem frzs_at {bor : List (Nat × V)} (hb : Bor S bor) {q : Nat × V} (hq : q ∈ bor) : S.apply (frzs bor) (.obj q.1) = q.2 := by
  obtain ⟨f, t, l, hS, e⟩ := hb q hq
  rcases frzs_obj S bor q.1 hb with ⟨v, hm, hv⟩ | ⟨hm, _⟩
  · obtain ⟨f', t', l', hS', e'⟩ := hb _ hm
    simp only at hS' e'
    rw [hS] at hS'
    cases hS'
    rw [hv, e', e]
  · exact (hm q.2 hq).elim

/-- A row in a world, its element written. -/
theorem store_row {w : World} {b : Nat} {cur : Array Value} {e : TypeId} (hb : w.heap[b]? = some (.cells cur e (0, 0))) (row : Array Value) : (w.setRow b row).heap[b]? = some (.cells row e (0, 0)) := setRow_heap w b cur row e (0, 0) hb

theorem Step.frz {c' : Cx} (hl : Later c c') (hw : c'.w = c.w) (hR : ∀ b o, c'.R b o → c.R b o ∨ Mu b ∧ b < c'.w.heap.size) : Step Mu c c' :=
  ⟨hl, by rw [hw]; exact Nat.le_refl _, hR, fun _ _ _ => by rw [hw], by rw [hw], by rw [hw], by rw [hw]⟩

theorem storeV_sound (hT : TabOk P E.tab) (h : Rel Mu nt S c a) {m : Nat} {p : List Nat} {T : TypeId} {t : Ty} {vx : V} {va xx : Value} (hp : RefPtr (c.ρ m) p va) (hx : TR c vx xx) (ht : E.tab T = some t)
    (hr : (storeV m p t vx).run S = some δ) : ∃ c', (Instr.storeAt T va xx).run P c.w = .ok () c'.w ∧ Rel Mu nt (S.apply δ) c' a ∧ Step Mu c c' := by
  have hk := hT T t ht
  have ho := h.objs.obj m
  simp only [storeV, run_get] at hr
  cases hS : S (.obj m) <;> rw [hS] at hr ho <;> try (simp at hr; done)
  case obj tm z =>
    cases hρ : c.ρ m <;> rw [hρ] at ho hp <;> try exact ho.elim
    rename_i b t'
    obtain ⟨rfl, hg, hc, cells, e, hb, hcr⟩ := ho
    obtain ⟨off, u', ha, rfl⟩ := hp
    simp only [Ty.tyAt_of ha] at hr
    split at hr
    · rename_i hcond
      obtain ⟨rfl, hcv⟩ := hcond
      cases hput : putAt z p vx with
      | none => simp [hput] at hr
      | some x' =>
        simp [hput] at hr
        subst hr
        obtain ⟨q1, _⟩ := hx.cells hcv
        have hlen := CR.length _ _ _ hcv q1
        obtain ⟨r1, r2⟩ := CR.putAt t' p z vx x' _ _ off u' hc hcr ha hput hcv q1
        have hsz := CR.length _ _ _ hc hcr
        have hle := Ty.at_le _ _ _ _ ha
        have hfit : off + u'.size ≤ cells.size := by
          have : cells.size = t'.size := by simpa using hsz
          omega
        have hst := hk.store_run (P := P) (x := xx) (o := off) hb (by simpa using hlen) hfit (CR.oneCell _ _ q1)
        have hblk : (c.ρ m).blk = some b := by rw [hρ]; rfl
        obtain ⟨w1, w2⟩ := h.objs.write (m := m) (b := b) hblk (w' := c.w.setRow b (cells.toList.take off ++ xx.cells.toList ++ cells.toList.drop (off + u'.size)).toArray)
          (fun k hk => setRow_other _ _ _ _ hk) (setRow_size _ _ _) (v' := .obj t' x') (fun hl => by
            rw [hρ]
            exact ⟨rfl, hg, r1, _, e, store_row hb _, CR.later hl _ _ (by simpa using r2)⟩)
        refine ⟨_, ?_, h.objs' w2 (fun t => St.set_other _ _ _ _ (by simp)) w1, Step.write w2 (h.objs.free m b hblk).1 (fun k hk => setRow_other _ _ _ _ hk) (setRow_size _ _ _) rfl rfl rfl⟩
        simp only [Instr.storeAt, Instr.sureAddr, Sem.run_bind, Sem.run_pure, Result.andThen_ok]
        exact hst
    · simp at hr
  case arrc f tm l =>
    match p with
    | [] => simp at hr
    | i :: q =>
      cases hρ : c.ρ m <;> rw [hρ] at ho hp <;> try exact ho.elim
      rename_i b t' len cap
      cases b with
      | none => exact hp.elim
      | some b =>
        obtain ⟨i', q', off, u', e', hi, ha, rfl⟩ := hp
        cases e'
        have ho1 := ho
        obtain ⟨rfl, _⟩ := ho1
        simp only [Ty.tyAt_of ha] at hr
        split at hr
        · rename_i hcond
          subst hcond
          simp only [run_bind_some, run_guard_some] at hr
          obtain ⟨k, hk1, hk2, hr⟩ := hr
          cases hown : k.own with
          | cons _ _ => simp [hown] at hr
          | nil =>
            cases hvars : k.vars with
            | cons _ _ => simp [hown, hvars] at hr
            | nil =>
              simp only [hown, hvars, run_opt_some] at hr
              obtain ⟨el, hel, hr⟩ := hr
              cases hput : putAt (expand (f && k.fr) t' el) q (expand (f && k.fr) u' k.x) with
              | none => simp [hput] at hr
              | some y =>
                simp only [hput] at hr
                cases hga : gatherF (f && k.fr) t' y with
                | none => simp [hga] at hr
                | some e' =>
                  simp only [hga, run_ret, Option.some.injEq] at hr
                  subst hr
                  have hbor := takeV_bor hk1
                  obtain ⟨c1, o1, l1, w1, ρ1, f1, n1⟩ := h.objs.freezes k.bor hbor
                  have hnm : ∀ v, (m, v) ∉ k.bor := by
                    intro v hv
                    have := List.all_eq_true.1 hk2 _ hv
                    simp at this
                  have hS1 : S.apply (frzs k.bor) (.obj m) = .arrc f t' l := by
                    rcases frzs_obj S k.bor m hbor with ⟨v, hv, _⟩ | ⟨_, hv⟩
                    · exact (hnm v hv).elim
                    · rw [hv, hS]
                  have hρ1 : c1.ρ m = .arr (some b) t' len cap := by rw [ρ1 m hnm, hρ]
                  have ho1 := o1.obj m
                  rw [hS1, hρ1] at ho1
                  obtain ⟨_, hg, hz, hlen, hlc, hcm, hfB, cells, e, hb, hsz, hrep⟩ := ho1
                  have hcv : conf u' (expand (f && k.fr) u' k.x) = true := conf_expand u' k.x hk.good
                  have hrx : ∀ cs, CR c vx cs → Rep (c1.Rf k.fr) c1.w u' k.x cs := fun cs hcs =>
                    takeV_rep h.objs l1 o1 hk1 hcs hown hvars (fun q hq => ⟨f1 q hq, frzs_at hbor hq⟩)
                  have hcr0 : CR c vx xx.cells.toList := (hx.cells (takeV_conf hk1)).1
                  have hrx := hrx _ hcr0
                  have hrx' : Rep (c1.Rf (f && k.fr)) c1.w u' k.x xx.cells.toList := Rep.weaken (by simp) hrx
                  have hms : xx.cells.toList.length = u'.size := Rep.length _ _ _ hrx'
                  have hrep' : RepL (Rep (c1.Rf (f && k.fr)) c1.w t') l (cells.toList.take (len * t'.size)) := hrep.mono fun x cs hh => Rep.weaken (by simp; exact fun h _ => h) hh
                  obtain ⟨r1, r2⟩ := RepL.get (fun x cs => Rep.length t' x cs) hrep' hel
                  obtain ⟨p1, p2⟩ := CR.putAt t' q _ _ y _ _ off u' (conf_expand t' el hg) (CR.expand t' el _ r1) ha hput hcv (CR.expand u' k.x _ hrx')
                  have hr' := gatherF_rep hga p2
                  have hil : i < l.length := (List.getElem?_eq_some_iff.1 hel).1
                  have hset := RepL.set (fun x cs => Rep.length t' x cs) hrep' hil hr'
                  have hle := Ty.at_le _ _ _ _ ha
                  have hsz' : cells.toList.length = cap * t'.size := by simpa using hsz
                  have hN : len * t'.size ≤ cells.toList.length := by rw [hsz']; exact Nat.mul_le_mul_right _ hlc
                  have hiN : i * t'.size + t'.size ≤ len * t'.size := by
                    rw [← Nat.succ_mul]; exact Nat.mul_le_mul_right _ (by omega)
                  have hrow := row_put cells.toList xx.cells.toList (i * t'.size) t'.size off u'.size (len * t'.size) hiN hN hle hms
                  have hfit : i * t'.size + off + u'.size ≤ cells.size := by
                    have : cells.size = cap * t'.size := hsz
                    have : cells.toList.length = cells.size := by simp
                    omega
                  have hst := hk.store_run (P := P) (x := xx) (o := i * t'.size + off) hb (by simpa using hms) hfit (Rep.oneCell _ _ _ hrx')
                  have hblk : (c1.ρ m).blk = some b := by rw [hρ1]; rfl
                  obtain ⟨w1', w2⟩ := o1.write (m := m) (b := b) hblk (w' := c1.w.setRow b (cells.toList.take (i * t'.size + off) ++ xx.cells.toList ++ cells.toList.drop (i * t'.size + off + u'.size)).toArray)
                    (fun k hk => setRow_other _ _ _ _ hk) (setRow_size _ _ _) (v' := .arrc (f && k.fr) t' (l.set i e')) (fun hl => by
                      rw [hρ1]
                      refine ⟨rfl, hg, hz, by simpa using hlen, hlc, hcm, fun hff => hfB (by simp at hff; exact hff.1), _, e, store_row hb _, ?_, ?_⟩
                      · simp only [List.size_toArray, List.length_append, List.length_take, List.length_drop, hms, hsz']
                        have : cells.size = cap * t'.size := hsz
                        omega
                      · simp only [List.toList_toArray]
                        rw [hrow]
                        exact hset.mono (Rep.later (hl.moref _) (hl.memf _) t'))
                  refine ⟨c1.setW (c1.w.setRow b (cells.toList.take (i * t'.size + off) ++ xx.cells.toList ++ cells.toList.drop (i * t'.size + off + u'.size)).toArray), ?_, ?_, ?_⟩
                  · simp only [Instr.storeAt, Instr.sureAddr, Sem.run_bind, Sem.run_pure, Result.andThen_ok]
                    rw [← w1]; exact hst
                  · refine h.objs' (l1.trans w2) (fun t => ?_) w1'
                    rw [apply_cons, St.set_other _ _ _ _ (by simp), frzs_tmp]
                  · exact (Step.frz l1 w1 n1).trans (Step.write w2 (o1.free m b hblk).1 (fun k hk => setRow_other _ _ _ _ hk) (setRow_size _ _ _) rfl rfl rfl)
        · simp at hr
end
end Go.Eng
