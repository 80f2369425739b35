/- The engine, part S: regions. -/
import Derived.Test.YtnpeafceolodiaaGreatEngR
namespace Go.Eng
open Go.RowKit

/-- What is read, with the places that were looked at. -/
def Rd.runL {α : Type} : Rd α → St → List Loc → Option (α × List Loc)
  | .ret a, _, rs => some (a, rs)
  | .fail, _, _ => none
  | .get l k, S, rs => (k (S l)).runL S (l :: rs)
  | .shp m k, S, rs => (k (shapeV (S (.obj m)))).runL S (.obj (shpName + m) :: rs)
  | .opt o k, S, rs => match o with | some x => (k x).runL S rs | none => none
  | .alt o n k, S, rs => match o with | some x => (k x).runL S rs | none => n.runL S rs

theorem runK_eq {α ω : Type} {S : St} : ∀ {r : Rd α} {rs : List Loc} {K : α → List Loc → Option ω}, r.runK S rs K = (r.runL S rs).bind fun q => K q.1 q.2
  | .ret a, rs, K => rfl
  | .fail, rs, K => rfl
  | .get l k, rs, K => runK_eq (r := k (S l))
  | .shp m k, rs, K => runK_eq (r := k (shapeV (S (.obj m))))
  | .opt o k, rs, K => by
      cases o with
      | none => rfl
      | some x => exact runK_eq (r := k x)
  | .alt o n k, rs, K => by
      cases o with
      | none => exact runK_eq (r := n)
      | some x => exact runK_eq (r := k x)

theorem runL_run {α : Type} {S : St} : ∀ {r : Rd α} {rs rs' : List Loc} {a : α}, r.runL S rs = some (a, rs') → r.run S = some a
  | .ret a, rs, rs', b, h => by simp [Rd.runL] at h; simp [h.1]
  | .fail, rs, rs', b, h => by simp [Rd.runL] at h
  | .get l k, rs, rs', b, h => runL_run (r := k (S l)) h
  | .shp m k, rs, rs', b, h => runL_run (r := k (shapeV (S (.obj m)))) h
  | .opt o k, rs, rs', b, h => by
      cases o with
      | none => simp [Rd.runL] at h
      | some x => exact runL_run (r := k x) h
  | .alt o n k, rs, rs', b, h => by
      cases o with
      | none => exact runL_run (r := n) h
      | some x => exact runL_run (r := k x) h

theorem runL_sub {α : Type} {S : St} : ∀ {r : Rd α} {rs rs' : List Loc} {a : α}, r.runL S rs = some (a, rs') → ∀ l ∈ rs, l ∈ rs'
  | .ret a, rs, rs', b, h => by simp [Rd.runL] at h; rw [h.2]; exact fun _ h => h
  | .fail, rs, rs', b, h => by simp [Rd.runL] at h
  | .get l k, rs, rs', b, h => fun m hm => runL_sub (r := k (S l)) h m (by simp [hm])
  | .shp m k, rs, rs', b, h => fun l hm => runL_sub (r := k (shapeV (S (.obj m)))) h l (by simp [hm])
  | .opt o k, rs, rs', b, h => by
      cases o with
      | none => simp [Rd.runL] at h
      | some x => exact runL_sub (r := k x) h
  | .alt o n k, rs, rs', b, h => by
      cases o with
      | none => exact runL_sub (r := n) h
      | some x => exact runL_sub (r := k x) h

/-- Two states that show the same where was looked. -/
def Ag (S S' : St) (rs : List Loc) : Prop := (∀ l ∈ rs, S' l = S l) ∧ ∀ m, .obj (shpName + m) ∈ rs → shapeV (S' (.obj m)) = shapeV (S (.obj m))
theorem Ag.mono {S S' : St} {rs rs' : List Loc} (h : Ag S S' rs) (hs : ∀ l ∈ rs', l ∈ rs) : Ag S S' rs' := ⟨fun l hl => h.1 l (hs l hl), fun m hm => h.2 m (hs _ hm)⟩

theorem runL_congr {α : Type} {S S' : St} : ∀ {r : Rd α} {rs rs' : List Loc} {a : α}, r.runL S rs = some (a, rs') → Ag S S' rs' → r.runL S' rs = some (a, rs')
  | .ret a, rs, rs', b, h, _ => h
  | .fail, rs, rs', b, h, _ => by simp [Rd.runL] at h
  | .get l k, rs, rs', b, h, hs => by
      have : S' l = S l := hs.1 l (runL_sub (r := k (S l)) h l (by simp))
      simp only [Rd.runL, this]
      exact runL_congr (r := k (S l)) h hs
  | .shp m k, rs, rs', b, h, hs => by
      have : shapeV (S' (.obj m)) = shapeV (S (.obj m)) := hs.2 m (runL_sub (r := k (shapeV (S (.obj m)))) h _ (by simp))
      simp only [Rd.runL, this]
      exact runL_congr (r := k (shapeV (S (.obj m)))) h hs
  | .opt o k, rs, rs', b, h, hs => by
      cases o with
      | none => simp [Rd.runL] at h
      | some x => exact runL_congr (r := k x) h hs
  | .alt o n k, rs, rs', b, h, hs => by
      cases o with
      | none => exact runL_congr (r := n) h hs
      | some x => exact runL_congr (r := k x) h hs

/-- An operation, as one question. -/
def cL (E : Env) (o : Oper) (S : St) : Option (List (Loc × V) × List Loc) :=
  match o.op with
  | .pick c a b => match c with
    | .tmp t => match S (.tmp t) with
      | .bool q => ((ev (bif q then a else b)).runL S [.tmp t]).map fun r => (set? o.dst r.1, r.2)
      | _ => none
    | _ => none
  | _ => (cop E o).runL S []

def gL (E : Env) (ops : Array Oper) (o : Oper) (S : St) : Option (List (Loc × V) × List Loc) :=
  match dstOk E o with
  | false => none
  | true => match o.guard with
    | none => cL E o S
    | some (j, want) => match (ops[j]?).bind (·.dst) with
      | some t => match S (.tmp t) with
        | .bool q => match q == want with
          | true => (cL E o S).map fun r => (r.1, .tmp t :: r.2)
          | false => some (set? o.dst .skip, [.tmp t])
        | .skip => some (set? o.dst .skip, [.tmp t])
        | _ => none
      | none => none

section
variable {P : Program} {E : Env} {Mu : Nat → Prop} {nt : Nat} {S : St} {c c' : Cx} {a : Act} {pars : List Nat} {ops : Array Oper} {o : Oper}

theorem runC_eq {ω : Type} {K : List (Loc × V) → St → List Loc → Option ω} : runC E o S K = (cL E o S).bind fun q => K q.1 S q.2 := by
  unfold runC cL
  cases ho : o.op
  case pick ct x y =>
    cases ct
    case tmp t =>
      simp only
      cases hS : S (.tmp t) <;> try rfl
      rename_i q
      have hs : S.set (.tmp t) (.bool q) = S := St.set_id _ _ _ hS
      cases q
      · simp only [hs, runK_eq, cond_false]
        cases (ev _).runL S [.tmp t] <;> rfl
      · simp only [hs, runK_eq, cond_true]
        cases (ev _).runL S [.tmp t] <;> rfl
    all_goals rfl
  all_goals exact runK_eq

theorem runG_eq {ω : Type} {K : List (Loc × V) → St → List Loc → Option ω} : runG E ops o S K = (gL E ops o S).bind fun q => K q.1 S q.2 := by
  unfold runG gL
  cases dstOk E o <;> try rfl
  cases o.guard with
  | none => exact runC_eq
  | some jw =>
    obtain ⟨j, want⟩ := jw
    cases hj : (ops[j]?).bind (·.dst) with
    | none => simp only [hj]; rfl
    | some t =>
      simp only [hj]
      cases hS : S (.tmp t) <;> try rfl
      rename_i q
      have hs : S.set (.tmp t) (.bool q) = S := St.set_id _ _ _ hS
      cases q <;> cases want <;> simp only [hs, runC_eq] <;> first | rfl | (cases cL E o S <;> rfl)

theorem cL_congr {S' : St} {δ : List (Loc × V)} {rs : List Loc} (h : cL E o S = some (δ, rs)) (hs : Ag S S' rs) : cL E o S' = some (δ, rs) := by
  unfold cL at h ⊢
  split at h
  · rename_i ct x y ho
    split at h
    · rename_i t
      cases hS : S (.tmp t) <;> rw [hS] at h <;> try (simp at h; done)
      rename_i q
      cases hr : (ev (bif q then x else y)).runL S [.tmp t] with
      | none => simp only [hr] at h; simp at h
      | some r =>
        simp only [hr] at h
        simp at h
        obtain ⟨rfl, rfl⟩ := h
        have : S' (.tmp t) = .bool q := by rw [← hS]; exact hs.1 _ (runL_sub hr _ (by simp))
        simp only [this]
        rw [runL_congr (S := S) (rs' := r.2) (a := r.1) hr hs]
        rfl
    · simp at h
  · exact runL_congr h hs

theorem gL_congr {S' : St} {δ : List (Loc × V)} {rs : List Loc} (h : gL E ops o S = some (δ, rs)) (hs : Ag S S' rs) : gL E ops o S' = some (δ, rs) := by
  unfold gL at h ⊢
  cases hd : dstOk E o with
  | false => simp [hd] at h
  | true =>
    simp only [hd] at h ⊢
    cases hg : o.guard with
    | none => simp only [hg] at h ⊢; exact cL_congr h hs
    | some jw =>
      obtain ⟨j, want⟩ := jw
      simp only [hg] at h ⊢
      cases hj : (ops[j]?).bind (·.dst) with
      | none => simp [hj] at h
      | some t =>
        simp only [hj] at h ⊢
        have hmem : Loc.tmp t ∈ rs → S' (.tmp t) = S (.tmp t) := fun hm => hs.1 _ hm
        cases hS : S (.tmp t) <;> rw [hS] at h hmem <;> try (simp at h; done)
        case bool q =>
          simp only at h
          cases hq : q == want with
          | true =>
            simp only [hq] at h
            cases hc : cL E o S with
            | none => simp [hc] at h
            | some r =>
              simp [hc] at h
              obtain ⟨rfl, rfl⟩ := h
              rw [hmem (by simp)]
              simp only [hq]
              rw [cL_congr (S := S) (δ := r.1) (rs := r.2) hc (hs.mono fun l hl => by simp [hl])]
              rfl
          | false =>
            simp [hq] at h
            obtain ⟨rfl, rfl⟩ := h
            rw [hmem (by simp)]
            simp [hq]
        case skip =>
          simp at h
          obtain ⟨rfl, rfl⟩ := h
          rw [hmem (by simp)]

theorem cL_sound (hE : EnvOk P E) (hMu : ∀ b, c.w.heap.size ≤ b → Mu b) (h : Rel Mu nt S c a) (hdn : ∀ t, o.dst = some t → t < nt) {δ : List (Loc × V)} {rs : List Loc} (hr : cL E o S = some (δ, rs)) : OpOk P Mu nt S c a o δ := by
  unfold cL at hr
  split at hr
  · rename_i ct x y ho
    split at hr
    · rename_i t
      cases hS : S (.tmp t) <;> rw [hS] at hr <;> try (simp at hr; done)
      rename_i q
      have ht := h.tmp t
      rw [hS] at ht
      have ht : a.tmps.getD t undef = .bool q := ht.bool
      cases hv : (ev (bif q then x else y)).runL S [.tmp t] with
      | none => simp only [hv] at hr; simp at hr
      | some r =>
        simp only [hv] at hr
        simp at hr
        obtain ⟨rfl, rfl⟩ := hr
        have hrun := runL_run (a := r.1) (rs' := r.2) hv
        refine OpOk.value h hdn (x := a.eval (bif q then x else y)) ?_ (ev_sound h hrun)
        have : a.eval (.tmp t) = .bool q := ht
        cases q <;> simp [execOp, ho, this, asBool]
    · simp at hr
  · exact cop_sound hE hMu h hdn (runL_run hr)

theorem dstOk_lt (h : dstOk E o = true) : ∀ t, o.dst = some t → t < E.nt := by
  intro t ht
  unfold dstOk at h
  rw [ht] at h
  simpa using h

/-- An operation of a region, with its guard. -/
theorem gL_sound (hE : EnvOk P E) (hMu : ∀ b, c.w.heap.size ≤ b → Mu b) (h : Rel Mu E.nt S c a) {δ : List (Loc × V)} {rs : List Loc} (hr : gL E ops o S = some (δ, rs)) {i : Nat} (hi : ops[i]? = some o) {K : Act → World → Prop} {Q : Exit → Act → World → Prop}
    (hK : ∀ c' a', Rel Mu E.nt (S.apply δ) c' a' → Step Mu c c' → K a' c'.w) : wpOp P ops Q i K a c.w := by
  unfold gL at hr
  cases hd : dstOk E o with
  | false => simp [hd] at hr
  | true =>
    simp only [hd] at hr
    have hdn := dstOk_lt hd
    have skip : Region.wanted o (yielded ops a.tmps) = false → δ = set? o.dst .skip → wpOp P ops Q i K a c.w := by
      intro hw hδ
      simp only [wpOp, hi, hw]
      refine hK c _ ?_ (Step.refl c)
      rw [hδ]
      exact set?_rel h hdn rfl
    have run : Region.wanted o (yielded ops a.tmps) = true → cL E o S = some (δ, rs) ∨ (∃ rs', cL E o S = some (δ, rs')) → wpOp P ops Q i K a c.w := by
      intro hw hc
      have : ∃ rs', cL E o S = some (δ, rs') := hc.elim (fun h => ⟨_, h⟩) id
      obtain ⟨rs', hc⟩ := this
      simp only [wpOp, hi, hw, if_true]
      exact .inl (cL_sound hE hMu h hdn hc K Q hK)
    cases hg : o.guard with
    | none =>
      simp only [hg] at hr
      exact run (by simp [Region.wanted, hg]) (.inl hr)
    | some jw =>
      obtain ⟨j, want⟩ := jw
      simp only [hg] at hr
      cases hj : (ops[j]?).bind (·.dst) with
      | none => simp [hj] at hr
      | some t =>
        simp only [hj] at hr
        have ht := h.tmp t
        cases hS : S (.tmp t) <;> rw [hS] at hr ht <;> try (simp at hr; done)
        case bool q =>
          have ht : a.tmps.getD t undef = .bool q := ht.bool
          have hy : yielded ops a.tmps j = some q := by
            unfold yielded
            rw [hj]
            have hlt : t < a.tmps.size := by
              apply Classical.byContradiction
              intro hh
              rw [Array.getD_eq_getD_getElem?, Array.getElem?_eq_none (Nat.le_of_not_lt hh)] at ht
              simp [undef] at ht
            rw [Array.getD_eq_getD_getElem?, Array.getElem?_eq_getElem hlt] at ht
            simp at ht
            simp [hlt, ht]
          simp only at hr
          cases hq : q == want with
          | true =>
            simp only [hq] at hr
            cases hc : cL E o S with
            | none => simp [hc] at hr
            | some r =>
              simp [hc] at hr
              exact run (by simpa [Region.wanted, hg, hy] using hq) (.inr ⟨r.2, by rw [hc, ← hr.1]⟩)
          | false =>
            simp [hq] at hr
            exact skip (by simpa [Region.wanted, hg, hy] using hq) hr.1.symm
        case skip =>
          have ht : a.tmps.getD t undef = undef := ht
          simp at hr
          have hy : yielded ops a.tmps j = none := by
            unfold yielded
            rw [hj]
            simp only [Option.bind_some]
            cases hx : a.tmps[t]? with
            | none => rfl
            | some x =>
              rw [Array.getD_eq_getD_getElem?, hx] at ht
              simp at ht
              subst ht
              simp [undef]
          exact skip (by simp [Region.wanted, hg, hy]) hr.1.symm

theorem execOps_sound {ω : Type} {z : ω} (hE : EnvOk P E) {K : St → Option ω} {Q : Exit → Act → World → Prop} : ∀ (os : List Oper) (k : Nat) (S : St) (c : Cx) (a : Act), (∀ b, c.w.heap.size ≤ b → Mu b) → (∀ i o, os[i]? = some o → ops[k + i]? = some o) → Rel Mu E.nt S c a →
    execOps E ops os S K = some z → (∀ S' c' a', K S' = some z → Rel Mu E.nt S' c' a' → Step Mu c c' → Q .normal a' c'.w) → wpOps P ops Q (List.range' k os.length) a c.w
  | [], k, S, c, a, _, _, h, hr, hQ => by
      simp only [execOps] at hr
      exact hQ S c a hr h (Step.refl c)
  | o :: os, k, S, c, a, hMu, hix, h, hr, hQ => by
      simp only [execOps, runG_eq] at hr
      obtain ⟨q, h1, h2⟩ := Option.bind_eq_some_iff.1 hr
      rw [List.length_cons, List.range'_succ, wpOps_cons]
      refine gL_sound hE hMu h (δ := q.1) (rs := q.2) h1 (hix 0 o rfl) fun c1 a1 r1 s1 => ?_
      refine execOps_sound hE os (k + 1) _ c1 a1 (fun b hb => hMu b (Nat.le_trans s1.size hb)) (fun i o ho => ?_) r1 h2 fun S' c' a' h3 r2 s2 => hQ S' c' a' h3 r2 (s1.trans s2)
      have := hix (i + 1) o (by simpa using ho)
      rwa [show k + (i + 1) = k + 1 + i by omega] at this

end
end Go.Eng
