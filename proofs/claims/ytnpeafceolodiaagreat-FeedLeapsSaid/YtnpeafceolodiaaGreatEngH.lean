/- The engine, part H: what is written. -/
import Derived.Test.YtnpeafceolodiaaGreatEngG
namespace Go.Eng
open Go.RowKit

section
variable {P : Program} {E : Env} {Mu : Nat → Prop} {nt : Nat} {S : St} {c : Cx} {a : Act} {o : Oper}

theorem ObjsR.change (h : ObjsR Mu S c) {S' : St} {c' : Cx} (hl : Later c c') (hs : c.w.heap.size ≤ c'.w.heap.size) (hrlt : ∀ b o, c'.R b o → b < c'.w.heap.size) (X : Nat → Prop)
    (hold : ∀ n, ¬ X n → S' (.obj n) = S (.obj n) ∧ c'.ρ n = c.ρ n ∧ ∀ b, (c.ρ n).blk = some b → c'.w.heap[b]? = c.w.heap[b]? ∧ ∀ o, ¬ c'.R b o)
    (hobj : ∀ n, X n → ObjR c' (S' (.obj n)) (c'.ρ n))
    (hfree : ∀ n b, X n → (c'.ρ n).blk = some b → Mu b ∧ ∀ o, ¬ c'.R b o)
    (hnew : ∀ n b t, X n → c'.ρ n = .var b t → n < parName → c.N b)
    (hap1 : ∀ n n' b, X n → X n' → (c'.ρ n).blk = some b → (c'.ρ n').blk = some b → n = n')
    (hap2 : ∀ n n' b, X n → ¬ X n' → (c'.ρ n).blk = some b → (c.ρ n').blk ≠ some b) : ObjsR Mu S' c' where
  obj := fun n => by
    by_cases hx : X n
    · exact hobj n hx
    · obtain ⟨e1, e2, e3⟩ := hold n hx
      rw [e1, e2]
      exact (h.obj n).move hl fun b hb => (e3 b hb).1
  apart := fun n n' b h1 h2 => by
    by_cases hx : X n <;> by_cases hx' : X n'
    · exact hap1 n n' b hx hx' h1 h2
    · rw [(hold n' hx').2.1] at h2; exact (hap2 n n' b hx hx' h1 h2).elim
    · rw [(hold n hx).2.1] at h1; exact (hap2 n' n b hx' hx h2 h1).elim
    · rw [(hold n hx).2.1] at h1; rw [(hold n' hx').2.1] at h2; exact h.apart n n' b h1 h2
  free := fun n b hb => by
    by_cases hx : X n
    · exact hfree n b hx hb
    · obtain ⟨e1, e2, e3⟩ := hold n hx
      rw [e2] at hb
      exact ⟨(h.free n b hb).1, (e3 b hb).2⟩
  new := fun n b t hn hp => by
    rw [hl.base]
    by_cases hx : X n
    · exact hnew n b t hx hn hp
    · rw [(hold n hx).2.1] at hn; exact h.new n b t hn hp
  base := fun b hb => by rw [hl.base]; exact h.base b (Nat.le_trans hs hb)
  rlt := hrlt

/-- The content of one object is written. -/
theorem ObjsR.write (h : ObjsR Mu S c) {m b : Nat} (hb : (c.ρ m).blk = some b) {w' : World} (hw : ∀ k, k ≠ b → w'.heap[k]? = c.w.heap[k]?) (hs : w'.heap.size = c.w.heap.size) {v' : V}
    (hv : Later c (c.setW w') → ObjR (c.setW w') v' (c.ρ m)) : ObjsR Mu (S.set (.obj m) v') (c.setW w') ∧ Later c (c.setW w') := by
  have hl : Later c (c.setW w') := ⟨rfl, fun _ _ => .inr (.inl rfl), fun _ _ h => h, fun b' o u hR hc => by
    have hne : b' ≠ b := by rintro rfl; exact (h.free m b' hb).2 o hR
    exact (World.cell?_of_block (w := c.w) (w' := w') (a := ⟨b', o, none⟩) (hw b' hne)).trans hc⟩
  refine ⟨h.change hl (by simp [Cx.setW, hs]) (fun b' o hR => by simp [Cx.setW, hs]; exact h.rlt b' o hR) (fun n => n = m) ?_ ?_ ?_ ?_ ?_ ?_, hl⟩
  · intro n hn
    refine ⟨St.set_other _ _ _ _ (by simpa using hn), rfl, fun b' hb' => ⟨hw b' ?_, (h.free n b' hb').2⟩⟩
    rintro rfl
    exact hn (h.apart n m b' hb' hb)
  · rintro n rfl
    rw [St.set_same]; exact hv hl
  · rintro n b' rfl hb'
    exact h.free n b' hb'
  · rintro n b' t rfl hn hp
    exact h.new n b' t hn hp
  · rintro n n' b' rfl rfl _ _; rfl
  · rintro n n' b' rfl hn' hb' hb''
    exact hn' (h.apart n' n b' hb'' hb')

theorem Step.write {w' : World} {b : Nat} (hl : Later c (c.setW w')) (hb : Mu b) (hw : ∀ k, k ≠ b → w'.heap[k]? = c.w.heap[k]?) (hs : w'.heap.size = c.w.heap.size) (h1 : w'.os = c.w.os) (h2 : w'.tape = c.w.tape) (h3 : w'.output = c.w.output) : Step Mu c (c.setW w') :=
  ⟨hl, by simp [Cx.setW, hs], fun _ _ h => .inl h, fun k _ hk => hw k (by rintro rfl; exact hk hb), h1, h2, h3⟩

theorem Rep.weaken {f f' : Bool} (hf : f' = true → f = true) {w : World} {t : Ty} {x : t.den} {cs : List Value} (h : Rep (c.Rf f) w t x cs) : Rep (c.Rf f') w t x cs :=
  Rep.later (fun _ _ hr => ⟨hr.1, fun e => hr.2 (hf e)⟩) (fun _ _ _ _ hc => hc) t x cs h

/-- A row that is to be looked at alone from now on. -/
theorem ObjsR.freeze (h : ObjsR Mu S c) {m : Nat} {f : Bool} {t : Ty} {l : List t.den} (hS : S (.obj m) = .arrc f t l) :
    ∃ c', ObjsR Mu (S.set (.obj m) (.frzc f t l)) c' ∧ Later c c' ∧ c'.w = c.w ∧ (∀ n, n ≠ m → c'.ρ n = c.ρ n) ∧ Froze (c.ρ m) (c'.ρ m) ∧ ∀ b o, c'.R b o → c.R b o ∨ Mu b ∧ b < c'.w.heap.size := by
  have ho := h.obj m
  rw [hS] at ho
  cases hρ : c.ρ m <;> rw [hρ] at ho <;> try exact ho.elim
  rename_i b t' len cap
  cases b with
  | none =>
    obtain ⟨rfl, hg, hz, rfl, rfl, rfl⟩ := ho
    have hl : Later c (c.setRef m (.frz none t' 0 0)) := ⟨rfl, fun n hn => by
      by_cases e : n = m
      · subst e; exact .inr (.inr ⟨none, t', 0, 0, hρ, by simp⟩)
      · exact .inr (.inl (Cx.setRef_other _ _ _ _ e)), fun _ _ h => h, fun _ _ _ _ h => h⟩
    refine ⟨c.setRef m (.frz none t' 0 0), h.change hl (Nat.le_refl _) h.rlt (fun n => n = m) ?_ ?_ ?_ ?_ ?_ ?_, hl, rfl, fun n hn => Cx.setRef_other _ _ _ _ hn, ⟨none, t', 0, 0, rfl, by simp⟩, fun _ _ h => .inl h⟩
    · intro n hn
      exact ⟨St.set_other _ _ _ _ (by simpa using hn), Cx.setRef_other _ _ _ _ hn, fun b hb => ⟨rfl, (h.free n b hb).2⟩⟩
    · rintro n rfl
      rw [St.set_same, Cx.setRef_same]
      refine ⟨rfl, hg, hz, rfl, ?_⟩
      rintro x ⟨ad, rfl⟩
      simp only [Rep]
      exact ⟨Nat.zero_le _, ad, 0, rfl, fun hne => (hne rfl).elim⟩
    · rintro n b rfl hb; simp [Ref.blk] at hb
    · rintro n b u rfl hn; simp at hn
    · rintro n n' b rfl rfl _ _; rfl
    · rintro n n' b rfl _ hb; simp [Ref.blk] at hb
  | some b =>
    obtain ⟨rfl, hg, hz, h1, h2, h3, h4, cells, e, hb, hsz, hrep⟩ := ho
    have hblk : (c.ρ m).blk = some b := by rw [hρ]; rfl
    have hfr := h.free m b hblk
    have hl : Later c ((c.setRef m (.frz (some b) t' len cap)).addR fun b' o => b' = b ∧ o < len * t'.size) := ⟨rfl, fun n hn => by
      by_cases e : n = m
      · subst e; exact .inr (.inr ⟨some b, t', len, cap, hρ, by simp [Cx.addR]⟩)
      · exact .inr (.inl (Cx.setRef_other _ _ _ _ e)), fun _ _ h => .inl h, fun _ _ _ _ h => h⟩
    refine ⟨_, h.change hl (Nat.le_refl _) ?_ (fun n => n = m) ?_ ?_ ?_ ?_ ?_ ?_, hl, rfl, fun n hn => Cx.setRef_other _ _ _ _ hn, ⟨some b, t', len, cap, rfl, by simp [Cx.addR]⟩, fun b' o hr => hr.imp id fun q => by obtain ⟨rfl, _⟩ := q; exact ⟨hfr.1, h.blk_lt hblk⟩⟩
    · rintro b' o (hr | ⟨rfl, _⟩)
      · exact h.rlt b' o hr
      · exact h.blk_lt hblk
    · intro n hn
      refine ⟨St.set_other _ _ _ _ (by simpa using hn), Cx.setRef_other _ _ _ _ hn, fun b' hb' => ⟨rfl, ?_⟩⟩
      rintro o (hr | ⟨rfl, _⟩)
      · exact (h.free n b' hb').2 o hr
      · exact hn (h.apart n m b' hb' hblk)
    · rintro n rfl
      rw [St.set_same]
      have : (Cx.addR (c.setRef n (.frz (some b) t' len cap)) fun b' o => b' = b ∧ o < len * t'.size).ρ n = .frz (some b) t' len cap := by simp [Cx.addR]
      rw [this]
      refine ⟨rfl, hg, hz, h1, ?_⟩
      rintro x rfl
      simp only [Rep]
      refine ⟨by omega, _, cap - l.length, by rw [h1, Nat.add_sub_cancel' (by omega)], fun hne => ⟨b, 0, _, rfl, hrep.mono (Rep.later (hl.moref f) (hl.memf f) t'), ?_⟩⟩
      intro j u hj
      rw [List.getElem?_take] at hj
      split at hj
      · rename_i hlt
        refine ⟨⟨.inr ⟨rfl, by omega⟩, fun hf => h4 hf⟩, ?_⟩
        show c.w.cell? _ = _
        rw [cell_row hb]; simpa using hj
      · simp at hj
    · rintro n b' rfl hb'; simp [Cx.addR, Ref.blk] at hb'
    · rintro n b' u rfl hn; simp [Cx.addR] at hn
    · rintro n n' b' rfl rfl _ _; rfl
    · rintro n n' b' rfl _ hb'; simp [Cx.addR, Ref.blk] at hb'

def Bor (S : St) (bor : List (Nat × V)) : Prop := ∀ q ∈ bor, ∃ f t l, S (.obj q.1) = .arrc f t l ∧ q.2 = .frzc f t l

theorem frzs_cons (q : Nat × V) (bor : List (Nat × V)) : frzs (q :: bor) = (.obj q.1, q.2) :: frzs bor := rfl

theorem frzs_tmp (S : St) : ∀ (bor : List (Nat × V)) (t : Nat), S.apply (frzs bor) (.tmp t) = S (.tmp t)
  | [], _ => rfl
  | q :: bor, t => by rw [frzs_cons, apply_cons, St.set_other _ _ _ _ (by simp)]; exact frzs_tmp S bor t

/-- After freezing, what names stand for. -/
theorem frzs_obj (S : St) : ∀ (bor : List (Nat × V)) (m : Nat), Bor S bor → (∃ v, (m, v) ∈ bor ∧ S.apply (frzs bor) (.obj m) = v) ∨ (∀ v, (m, v) ∉ bor) ∧ S.apply (frzs bor) (.obj m) = S (.obj m)
  | [], m, _ => .inr ⟨by simp, rfl⟩
  | q :: bor, m, h => by
      rw [frzs_cons, apply_cons]
      by_cases e : m = q.1
      · subst e; left; exact ⟨q.2, by simp, St.set_same _ _ _⟩
      · rw [St.set_other _ _ _ _ (by simpa using e)]
        rcases frzs_obj S bor m (fun x hx => h x (by simp [hx])) with ⟨v, h1, h2⟩ | ⟨h1, h2⟩
        · exact .inl ⟨v, by simp [h1], h2⟩
        · right
          refine ⟨fun v hv => ?_, h2⟩
          rcases List.mem_cons.1 hv with e' | hv
          · exact e (by rw [← e'])
          · exact h1 v hv

theorem ObjsR.freezes (h : ObjsR Mu S c) : ∀ (bor : List (Nat × V)), Bor S bor →
    ∃ c', ObjsR Mu (S.apply (frzs bor)) c' ∧ Later c c' ∧ c'.w = c.w ∧ (∀ n, (∀ v, (n, v) ∉ bor) → c'.ρ n = c.ρ n) ∧ (∀ q ∈ bor, Froze (c.ρ q.1) (c'.ρ q.1)) ∧ ∀ b o, c'.R b o → c.R b o ∨ Mu b ∧ b < c'.w.heap.size
  | [], _ => ⟨c, h, Later.refl c, rfl, fun _ _ => rfl, by simp, fun _ _ h => .inl h⟩
  | q :: bor, hb => by
      have hb' : Bor S bor := fun x hx => hb x (by simp [hx])
      obtain ⟨c1, h1, l1, w1, e1, f1, n1⟩ := ObjsR.freezes h bor hb'
      obtain ⟨f, t, l, hS, hq⟩ := hb q (by simp)
      rcases frzs_obj S bor q.1 hb' with ⟨v, hm, hv⟩ | ⟨hm, hv⟩
      · have hvq : v = q.2 := by
          obtain ⟨f', t', l', hS', hv'⟩ := hb' _ hm
          rw [hS] at hS'
          cases hS'
          rw [hq]; exact hv'
        refine ⟨c1, ?_, l1, w1, ?_, ?_, n1⟩
        · rw [frzs_cons, apply_cons, St.set_id _ _ _ (hv.trans hvq)]; exact h1
        · intro n hn; exact e1 n fun v hv => hn v (by simp [hv])
        · intro x hx
          rcases List.mem_cons.1 hx with rfl | hx
          · exact f1 (x.1, v) hm
          · exact f1 x hx
      · obtain ⟨c2, h2, l2, w2, e2, f2, n2⟩ := h1.freeze (m := q.1) (f := f) (t := t) (l := l) (hv.trans hS)
        refine ⟨c2, ?_, l1.trans l2, w2.trans w1, ?_, ?_, fun b o hr => (n2 b o hr).elim (fun hr => (n1 b o hr).imp id fun q => ⟨q.1, by rw [w2]; exact q.2⟩) .inr⟩
        · rw [frzs_cons, apply_cons, hq]; exact h2
        · intro n hn
          have hne : n ≠ q.1 := by rintro rfl; exact hn q.2 (by simp)
          rw [e2 n hne]; exact e1 n fun v hv => hn v (by simp [hv])
        · intro x hx
          rcases List.mem_cons.1 hx with rfl | hx
          · rw [e1 _ hm] at f2; exact f2
          · have := f1 x hx
            by_cases e : x.1 = q.1
            · exact (hm x.2 (by rw [← e]; exact hx)).elim
            · rw [e2 _ e]; exact this

/-- What is taken is there once the rows that it leads to are frozen. -/
theorem takeSl_bor {md : Md} {t : Ty} {v : V} {k : Tk (List t.den)} (hr : (takeSl md t v).run S = some k) : Bor S k.bor := by
  cases v <;> try (simp [takeSl] at hr; done)
  case nils => simp [takeSl] at hr; subst hr; intro q hq; simp at hq
  case sl f t' l =>
    simp only [takeSl] at hr
    by_cases e : t' = t
    · subst e
      cases md <;> simp [run_guard_some] at hr
      · subst hr; intro q hq; simp at hq
      · obtain ⟨_, rfl⟩ := hr; intro q hq; simp at hq
    · simp [e] at hr
  case own m =>
    simp only [takeSl, run_get] at hr
    cases hS : S (.obj m) <;> rw [hS] at hr <;> try (simp at hr; done)
    case arrc f t' l =>
      by_cases e : t' = t
      · subst e
        cases md <;> simp [run_guard_some, castL_rfl] at hr
        · subst hr; intro q hq; simp at hq; subst hq; exact ⟨f, _, l, hS, rfl⟩
        · obtain ⟨_, rfl⟩ := hr; intro q hq; simp at hq; subst hq; exact ⟨f, _, l, hS, rfl⟩
        · obtain ⟨_, rfl⟩ := hr; intro q hq; simp at hq
        · subst hr; intro q hq; simp at hq
      · simp [e] at hr
    case frzc f t' l =>
      by_cases e : t' = t
      · subst e
        cases md <;> simp [run_guard_some, castL_rfl] at hr
        · subst hr; intro q hq; simp at hq
        · obtain ⟨_, rfl⟩ := hr; intro q hq; simp at hq
      · simp [e] at hr
  case vsl m p lo hi =>
    cases md <;> try (simp [takeSl] at hr; done)
    cases t <;> try (simp [takeSl] at hr; done)
    simp only [takeSl, run_get] at hr
    cases hS : S (.obj m) <;> rw [hS] at hr <;> try (simp at hr; done)
    simp only [run_bind_some] at hr
    obtain ⟨u, _, hr⟩ := hr
    cases u <;> try (simp at hr; done)
    rename_i k1 _ _ _ k2 _ _
    by_cases e : k2 = k1
    · simp [e] at hr; subst hr; intro q hq; simp at hq
    · simp [e] at hr

theorem takeInt_some {k : IntKind} {v : V} {z : Tk Int} (hr : (takeInt k v).run S = some z) : ∃ n, v = .int k n ∧ z = ⟨n, [], [], [], true⟩ := by
  cases v <;> try (simp [takeInt] at hr; done)
  simp only [takeInt] at hr; split at hr
  · rename_i e; subst e; simp at hr; exact ⟨_, rfl, hr.symm⟩
  · simp at hr
theorem takeUnit_some {v : V} {z : Tk Unit} (hr : (takeUnit v).run S = some z) : v = .node [] ∧ z = ⟨(), [], [], [], true⟩ := by
  cases v <;> try (simp [takeUnit] at hr; done)
  rename_i vs
  cases vs <;> simp [takeUnit] at hr
  exact ⟨rfl, hr.symm⟩
theorem takeBool_some {v : V} {z : Tk Bool} (hr : (takeBool v).run S = some z) : ∃ b, v = .bool b ∧ z = ⟨b, [], [], [], true⟩ := by
  cases v <;> try (simp [takeBool] at hr; done)
  simp [takeBool] at hr; exact ⟨_, rfl, hr.symm⟩
theorem takeStr_some {v : V} {z : Tk ByteArray} (hr : (takeStr v).run S = some z) : ∃ b, v = .str b ∧ z = ⟨b, [], [], [], true⟩ := by
  cases v <;> try (simp [takeStr] at hr; done)
  simp [takeStr] at hr; exact ⟨_, rfl, hr.symm⟩
theorem takeArr_some {n : Nat} {k : IntKind} {v : V} {z : Tk (List Int)} (hr : (takeArr n k v).run S = some z) : ∃ l, v = .arr n k l ∧ z = ⟨l, [], [], [], true⟩ := by
  cases v <;> try (simp [takeArr] at hr; done)
  simp only [takeArr] at hr; split at hr
  · rename_i e; obtain ⟨rfl, rfl⟩ := e; simp at hr; exact ⟨_, rfl, hr.symm⟩
  · simp at hr
theorem onNode_some {α : Type} {f : V → List V → Rd α} {v : V} {z : α} (hr : (onNode f v).run S = some z) : ∃ u vs, v = .node (u :: vs) ∧ (f u vs).run S = some z := by
  cases v <;> try (simp [onNode] at hr; done)
  rename_i vs
  cases vs with
  | nil => simp [onNode] at hr
  | cons u vs => exact ⟨u, vs, rfl, hr⟩
theorem takeProd_some {a b : Ty} {v : V} {k : Tk (Ty.prod a b).den} (hr : (takeV (.prod a b) v).run S = some k) : ∃ u vs x y, v = .node (u :: vs) ∧ (takeV a u).run S = some x ∧ (takeV b (.node vs)).run S = some y ∧
    k = ⟨(x.x, y.x), x.own ++ y.own, x.bor ++ y.bor, x.vars ++ y.vars, x.fr && y.fr⟩ := by
  obtain ⟨u, vs, e, h⟩ := onNode_some hr
  simp only [run_bind_some, run_ret, Option.some.injEq] at h
  obtain ⟨x, h1, y, h2, h3⟩ := h
  exact ⟨u, vs, x, y, e, h1, h2, h3.symm⟩

theorem Bor.nil : Bor S [] := by intro q hq; simp at hq
theorem Bor.append {l m : List (Nat × V)} (h : Bor S l) (h' : Bor S m) : Bor S (l ++ m) := by
  intro q hq
  rcases List.mem_append.1 hq with hq | hq
  · exact h q hq
  · exact h' q hq

theorem takeV_bor : ∀ {t : Ty} {v : V} {k : Tk t.den}, (takeV t v).run S = some k → Bor S k.bor
  | .unit, v, k, hr => by obtain ⟨_, rfl⟩ := takeUnit_some hr; exact .nil
  | .int _, v, k, hr => by obtain ⟨_, _, rfl⟩ := takeInt_some hr; exact .nil
  | .bool, v, k, hr => by obtain ⟨_, _, rfl⟩ := takeBool_some hr; exact .nil
  | .str, v, k, hr => by obtain ⟨_, _, rfl⟩ := takeStr_some hr; exact .nil
  | .arr _ _, v, k, hr => by obtain ⟨_, _, rfl⟩ := takeArr_some hr; exact .nil
  | .sl md t, v, k, hr => by simp only [takeV] at hr; exact takeSl_bor hr
  | .prod a b, v, k, hr => by
      obtain ⟨u, vs, x, y, rfl, h1, h2, rfl⟩ := takeProd_some hr
      exact (takeV_bor h1).append (takeV_bor h2)
  | .opq, v, k, hr => by simp [takeV] at hr
  | .ifc, v, k, hr => by simp [takeV] at hr

theorem takeSl_rep (h : ObjsR Mu S c) {md : Md} {t : Ty} {v : V} {k : Tk (List t.den)} {cs : List Value} (hr : (takeSl md t v).run S = some k) (hc : CR c v cs) (ho : k.own = []) (hv : k.vars = []) {S' : St} {c' : Cx} (hl : Later c c')
    (h' : ObjsR Mu S' c') (hb : ∀ q ∈ k.bor, Froze (c.ρ q.1) (c'.ρ q.1) ∧ S' (.obj q.1) = q.2) : Rep (c'.Rf k.fr) c'.w (.sl md t) k.x cs := by
  cases v <;> try (simp [takeSl] at hr; done)
  case nils =>
    simp [takeSl] at hr; subst hr
    simp only [CR] at hc; subst hc
    simp only [Rep]
    exact ⟨Nat.zero_le _, none, 0, rfl, fun hne => (hne rfl).elim⟩
  case sl f t' l =>
    simp only [takeSl] at hr
    simp only [CR] at hc
    have hc' := Rep.later (hl.moref f) (hl.memf f) _ _ _ hc
    by_cases e : t' = t
    · subst e
      cases md <;> simp [run_guard_some, castL_rfl] at hr
      · subst hr; exact hc'
      · obtain ⟨rfl, rfl⟩ := hr; exact hc'
    · simp [e] at hr
  case own m =>
    simp only [takeSl, run_get] at hr
    simp only [CR] at hc
    obtain ⟨x, rfl, hx⟩ := hc
    have hobj := h.obj m
    have hobj' := h'.obj m
    cases hS : S (.obj m) <;> rw [hS] at hr hobj <;> try (simp at hr; done)
    case arrc f t' l =>
      by_cases e : t' = t
      · subst e
        have key : ∀ q, q = (m, V.frzc f t' l) → q ∈ k.bor → Rep (c'.Rf f) c'.w (.sl .ro t') l [x] := by
          rintro q rfl hq
          obtain ⟨⟨b, u, len, cap, e1, e2⟩, e3⟩ := hb _ hq
          simp only at e1 e2 e3
          rw [e3, e2] at hobj'
          obtain ⟨rfl, _, _, _, hrep⟩ := hobj'
          rw [e1] at hx
          exact hrep x (by cases b <;> exact hx)
        cases md <;> simp [run_guard_some, castL_rfl] at hr
        · subst hr; exact key _ rfl (by simp)
        · obtain ⟨rfl, rfl⟩ := hr; exact key _ rfl (by simp)
        · obtain ⟨_, rfl⟩ := hr; simp at ho
        · subst hr; simp at ho
      · simp [e] at hr
    case frzc f t' l =>
      by_cases e : t' = t
      · subst e
        cases hρ : c.ρ m <;> rw [hρ] at hobj hx <;> try exact hobj.elim
        rename_i b u len cap
        obtain ⟨rfl, _, _, _, hrep⟩ := hobj
        have hrep' := Rep.later (hl.moref f) (hl.memf f) _ _ _ (hrep x (by cases b <;> exact hx))
        cases md <;> simp [run_guard_some, castL_rfl] at hr
        · subst hr; exact hrep'
        · obtain ⟨rfl, rfl⟩ := hr; exact hrep'
      · simp [e] at hr
  case vsl m p lo hi =>
    cases md <;> try (simp [takeSl] at hr; done)
    cases t <;> try (simp [takeSl] at hr; done)
    simp only [takeSl, run_get] at hr
    cases hS : S (.obj m) <;> rw [hS] at hr <;> try (simp at hr; done)
    simp only [run_bind_some] at hr
    obtain ⟨u, _, hr⟩ := hr
    cases u <;> try (simp at hr; done)
    rename_i k1 _ _ _ k2 _ _
    by_cases e : k2 = k1
    · simp [e] at hr; subst hr; simp at hv
    · simp [e] at hr

theorem takeV_rep (h : ObjsR Mu S c) {S' : St} {c' : Cx} (hl : Later c c') (h' : ObjsR Mu S' c') : ∀ {t : Ty} {v : V} {k : Tk t.den} {cs : List Value}, (takeV t v).run S = some k → CR c v cs → k.own = [] → k.vars = [] →
    (∀ q ∈ k.bor, Froze (c.ρ q.1) (c'.ρ q.1) ∧ S' (.obj q.1) = q.2) → Rep (c'.Rf k.fr) c'.w t k.x cs
  | .unit, v, k, cs, hr, hc, ho, hv, hb => by
      obtain ⟨rfl, rfl⟩ := takeUnit_some hr
      simpa [CR, CRs, Rep] using hc
  | .int _, v, k, cs, hr, hc, ho, hv, hb => by
      obtain ⟨_, rfl, rfl⟩ := takeInt_some hr
      simpa [CR, Rep] using hc
  | .bool, v, k, cs, hr, hc, ho, hv, hb => by
      obtain ⟨_, rfl, rfl⟩ := takeBool_some hr
      simpa [CR, Rep] using hc
  | .str, v, k, cs, hr, hc, ho, hv, hb => by
      obtain ⟨_, rfl, rfl⟩ := takeStr_some hr
      simpa [CR, Rep] using hc
  | .arr _ _, v, k, cs, hr, hc, ho, hv, hb => by
      obtain ⟨_, rfl, rfl⟩ := takeArr_some hr
      simpa [CR, Rep] using hc
  | .sl md t, v, k, cs, hr, hc, ho, hv, hb => by simp only [takeV] at hr; exact takeSl_rep h hr hc ho hv hl h' hb
  | .prod a b, v, k, cs, hr, hc, ho, hv, hb => by
      obtain ⟨u, vs, x, y, rfl, h1, h2, rfl⟩ := takeProd_some hr
      simp at ho hv
      simp only [CR, CRs] at hc
      obtain ⟨c1, c2, rfl, q1, q2⟩ := hc
      have r1 := takeV_rep h hl h' h1 q1 ho.1 hv.1 (fun q hq => hb q (by simp [hq]))
      have r2 := takeV_rep h hl h' h2 (by simpa only [CR] using q2) ho.2 hv.2 (fun q hq => hb q (by simp [hq]))
      exact ⟨c1, c2, rfl, Rep.weaken (by simp; exact fun h _ => h) r1, Rep.weaken (by simp) r2⟩
  | .opq, v, k, cs, hr, hc, ho, hv, hb => by simp [takeV] at hr
  | .ifc, v, k, cs, hr, hc, ho, hv, hb => by simp [takeV] at hr

end
end Go.Eng
