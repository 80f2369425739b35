/- The engine, part W: functions. -/
import Derived.Test.YtnpeafceolodiaaGreatEngV
namespace Go.Eng
open Go.RowKit

/-- A call, whether of a function with a body or of one of the library's. -/
def CallF (P : Program) (f : FuncId) (args : Array Value) (w : World) (R : Value → World → Prop) : Prop :=
  match (callFunc f args).run P w with
  | .ok (.value v) w' => R v w'
  | .ok (.enter f' args') w' => Calls P f' args' w' fun
    | .returned v, w'' => R v w''
    | _, _ => False
  | _ => False

def startName : Nat := parName + 1000

def emptyS : St := fun _ => .undef

/-- How a call ends. -/
structure Ends (Mu : Nat → Prop) (q : Callee) (c c' : Cx) (n : Nat) (us : List V) (d1 : List (Loc × V)) (o : DO q.ps) (v : Value) : Prop where
  goes : Goes Mu (parsOf q.ps 0) c c'
  val : TR c' (oneV us) v
  objs : ObjsR Mu (emptyS.apply ((endO q.ps o 0 (n + d1.length)).1 ++ (d1 ++ (endO q.ps o 0 (n + d1.length)).2))) c'
  par : ∀ m ∈ parsOf q.ps 0, c'.ρ m = c.ρ m
  other : ∀ m, m ∉ parsOf q.ps 0 → ¬ inNew n (d1.length + (endO q.ps o 0 (n + d1.length)).2.length) m → c'.ρ m = .none

/-- What a function is known to do. -/
def Contract (P : Program) (f : FuncId) (q : Callee) : Prop :=
  ∀ (Mu : Nat → Prop) (c : Cx) (args : Array Value) (x : DP q.ps) (o : DO q.ps) (r : DR q.rs),
    q.F x = some (o, r) → (∀ b, c.w.heap.size ≤ b → Mu b) → args.size = q.ps.length →
    ObjsR Mu (startS q.ps x 0 startName) c → (∀ i, TR c (startS q.ps x 0 startName (.tmp i)) (args.getD i undef)) →
    ∀ n us d1, n + 2000 ≤ parName → putR q.rs r n = some (us, d1) → d1.length + (endO q.ps o 0 (n + d1.length)).2.length ≤ 1000 →
      CallF P f args c.w fun v w' => ∃ c', c'.w = w' ∧ Ends Mu q c c' n us d1 o v

section
variable {P : Program} {E : Env} {Mu : Nat → Prop} {nt : Nat} {S : St} {c c' : Cx} {a : Act}

theorem loadAt_asAddr {T : TypeId} {x y : Value} {w : World} (h : (Instr.loadAt T x).run P w = .ok y w) : (do loadVar T (← asAddr x) : Sem Value).run P w = .ok y w := by
  unfold Instr.loadAt at h
  cases x <;> try (simp [Instr.sureAddr] at h; done)
  rename_i ad
  cases ad with
  | none => simp [Instr.sureAddr] at h
  | some ad => simpa [Instr.sureAddr, asAddr] using h

theorem resVs_run (hT : TabOk P E.tab) (h : Rel Mu nt S c a) : ∀ {rs : List ResultVar} {vs : List V}, (resVs E rs).run S = some vs →
    ∃ xs : List Value, (rs.mapM fun (r : ResultVar) => (match r with
      | .tmp t => pure (a.tmps.getD t undef)
      | .cell p t => do loadVar t (← asAddr (a.tmps.getD p undef)) : Sem Value)).run P c.w = .ok xs c.w ∧ TRv c vs xs
  | [], vs, hr => by simp [resVs] at hr; subst hr; exact ⟨[], by simp, trivial⟩
  | r :: rs, vs, hr => by
      simp only [resVs, run_bind_some, run_ret, Option.some.injEq] at hr
      obtain ⟨v, h1, vs', h2, rfl⟩ := hr
      obtain ⟨xs, e2, t2⟩ := resVs_run hT h h2
      cases r with
      | tmp t =>
        simp [resV] at h1; subst h1
        refine ⟨a.tmps.getD t undef :: xs, ?_, h.tmp t, t2⟩
        simp only [List.mapM_cons, Sem.run_bind, Sem.run_pure, Result.andThen_ok, e2]
      | cell p T =>
        simp only [resV, run_bind_some, run_rd, Option.some.injEq] at h1
        obtain ⟨u, rfl, h1⟩ := h1
        obtain ⟨y, hy, ty⟩ := loadV_sound hT h.objs (h.tmp p) h1
        refine ⟨y :: xs, ?_, ty, t2⟩
        simp only [List.mapM_cons, Sem.run_bind] at e2 ⊢
        rw [← Sem.run_bind, loadAt_asAddr hy]
        simp only [Result.andThen_ok, e2, Sem.run_pure]

def solid : V → Bool
  | .undef | .skip | .tup _ => false
  | _ => true

theorem TR.to1 {v : V} {x : Value} (h : TR c v x) (hs : solid v = true) : TR1 c v x := by
  cases v
  case undef => simp [solid] at hs
  case skip => simp [solid] at hs
  case tup vs => simp [solid] at hs
  all_goals exact h

theorem TR1.to {v : V} {x : Value} (h : TR1 c v x) (hs : solid v = true) : TR c v x := by
  cases v
  case undef => simp [solid] at hs
  case skip => simp [solid] at hs
  case tup vs => simp [solid] at hs
  all_goals exact h

theorem consN_solid (v u : V) : solid (consN v u) = true := by
  cases u <;> rfl

theorem putV_solid : ∀ {t : Ty} (x : t.den) (n : Nat), solid (putV t x n).1 = true
  | .unit, _, _ => rfl
  | .int _, _, _ => rfl
  | .bool, _, _ => rfl
  | .str, _, _ => rfl
  | .arr _ _, _, _ => rfl
  | .sl .ro _, _, _ => rfl
  | .sl .fr _, _, _ => rfl
  | .sl .own _, _, _ => rfl
  | .sl .ownx _, _, _ => rfl
  | .prod a b, x, n => by simp only [putV]; exact consN_solid _ _
  | .opq, x, _ => nomatch x
  | .ifc, x, _ => nomatch x

def okRes (v : V) : Prop := v = .undef ∨ solid v = true

theorem putR_solid : ∀ (rs : List RK) (r : DR rs) (n : Nat) {us : List V} {d : List (Loc × V)}, putR rs r n = some (us, d) → ∀ v ∈ us, okRes v
  | [], _, _, us, d, h => by simp [putR] at h; obtain ⟨rfl, _⟩ := h; simp
  | .val t :: rs, r, n, us, d, h => by
      simp only [putR] at h
      cases hq : putR rs r.2 (putV t r.1 n).2.2 with
      | none => simp [hq] at h
      | some q =>
        simp [hq] at h
        obtain ⟨rfl, _⟩ := h
        intro v hv
        rcases List.mem_cons.1 hv with rfl | hv
        · exact .inr (putV_solid _ _)
        · exact putR_solid rs r.2 _ hq v hv
  | .drop :: rs, r, n, us, d, h => by
      simp only [putR] at h
      cases hq : putR rs r.2 n with
      | none => simp [hq] at h
      | some q =>
        simp [hq] at h
        obtain ⟨rfl, _⟩ := h
        intro v hv
        rcases List.mem_cons.1 hv with rfl | hv
        · exact .inl rfl
        · exact putR_solid rs r.2 _ hq v hv
  | .box t :: rs, r, n, us, d, h => by
      simp only [putR] at h
      split at h
      · cases hq : putR rs r.2 n with
        | none => simp [hq] at h
        | some q =>
          simp [hq] at h
          obtain ⟨rfl, _⟩ := h
          intro v hv
          rcases List.mem_cons.1 hv with rfl | hv
          · exact .inr rfl
          · exact putR_solid rs r.2 _ hq v hv
      · rename_i x hx
        split at h
        · cases hq : putR rs r.2 (putV t x (n + 1)).2.2 with
          | none => simp [hq] at h
          | some q =>
            simp [hq] at h
            obtain ⟨rfl, _⟩ := h
            intro v hv
            rcases List.mem_cons.1 hv with rfl | hv
            · exact .inr rfl
            · exact putR_solid rs r.2 _ hq v hv
        · simp at h

theorem TRv.t1 : ∀ {vs : List V} {xs : List Value}, TRv c vs xs → (∀ v ∈ vs, okRes v) → TRt c vs xs
  | [], [], _, _ => trivial
  | v :: vs, x :: xs, h, hs => ⟨(hs v (by simp)).imp id fun hv => h.1.to1 hv, TRv.t1 h.2 fun v hv => hs v (by simp [hv])⟩
  | [], _ :: _, h, _ => h.elim
  | _ :: _, [], h, _ => h.elim

def oneX : List Value → Value
  | [x] => x
  | xs => .tuple xs.toArray

theorem TRv.oneV {us : List V} {xs : List Value} (h : TRv c us xs) (hs : ∀ v ∈ us, okRes v) : TR c (oneV us) (oneX xs) := by
  match us, xs, h with
  | [], [], h => exact ⟨#[], rfl, trivial⟩
  | [v], [x], h => exact h.1
  | v :: v' :: vs, x :: x' :: xs, h => exact ⟨(x :: x' :: xs).toArray, rfl, by simpa using TRv.t1 h hs⟩

theorem results_run (hT : TabOk P E.tab) (h : Rel Mu nt S c a) {fn : Func} {vs : List V} (hr : (resVs E fn.results.toList).run S = some vs) :
    ∃ xs : List Value, (results fn a.tmps).run P c.w = .ok (oneX xs) c.w ∧ TRv c vs xs := by
  obtain ⟨xs, e, ht⟩ := resVs_run hT h hr
  refine ⟨xs, ?_, ht⟩
  unfold results
  rw [Array.mapM_eq_mapM_toList]
  simp only [Sem.run_bind, Sem.run_map] at e ⊢
  erw [e]
  simp only [Result.andThen_ok]
  match xs with
  | [] => simp [oneX]
  | [x] => simp [oneX]
  | x :: y :: xs => simp [oneX]

theorem putV_keys : ∀ {t : Ty} (x : t.den) (n : Nat), Keys n (putV t x n).2.1 ∧ (putV t x n).2.2 = n + t.owns
  | .unit, _, n => ⟨.nil n, rfl⟩
  | .int _, _, n => ⟨.nil n, rfl⟩
  | .bool, _, n => ⟨.nil n, rfl⟩
  | .str, _, n => ⟨.nil n, rfl⟩
  | .arr _ _, _, n => ⟨.nil n, rfl⟩
  | .sl .ro _, _, n => ⟨.nil n, rfl⟩
  | .sl .fr _, _, n => ⟨.nil n, rfl⟩
  | .sl .own _, _, n => ⟨by intro i q h; cases i <;> simp [putV] at h; subst h; rfl, rfl⟩
  | .sl .ownx _, _, n => ⟨by intro i q h; cases i <;> simp [putV] at h; subst h; rfl, rfl⟩
  | .prod a b, x, n => by
      obtain ⟨h1, h2⟩ := putV_keys x.1 n
      obtain ⟨h3, h4⟩ := putV_keys x.2 (putV a x.1 n).2.2
      have hl := putV_owns x.1 n
      refine ⟨?_, ?_⟩
      · simp only [putV]
        exact h1.append (by rw [hl, ← h2]; exact h3)
      · simp only [putV, Ty.owns]
        rw [h4, h2, Nat.add_assoc]
  | .opq, x, _ => nomatch x
  | .ifc, x, _ => nomatch x

theorem apply_put_tmp (S : St) {t : Ty} (x : t.den) (n i : Nat) : S.apply (putV t x n).2.1 (.tmp i) = S (.tmp i) :=
  apply_keys _ n S (.tmp i) (putV_keys x n).1

theorem startS_tmp : ∀ (ks : List PK) (x : DP ks) (i n t : Nat), (t < i ∨ i + ks.length ≤ t) → startS ks x i n (.tmp t) = .undef
  | [], _, _, _, _, _ => rfl
  | .val t' :: ks, x, i, n, t, h => by
      simp only [startS]
      simp only [List.length_cons] at h
      rw [St.set_other _ _ _ _ (by simp; omega)]
      exact startS_tmp ks x.2 (i + 1) n t (by omega)
  | .rptr t' :: ks, x, i, n, t, h => by
      simp only [startS]
      simp only [List.length_cons] at h
      rw [St.set_other _ _ _ _ (by simp; omega)]
      exact startS_tmp ks x.2 (i + 1) n t (by omega)
  | .ptr t' :: ks, x, i, n, t, h => by
      simp only [startS]
      simp only [List.length_cons] at h
      rw [St.set_other _ _ _ _ (by simp), St.set_other _ _ _ _ (by simp; omega)]
      exact (apply_put_tmp (t := t') _ x.1 n t).trans (startS_tmp ks x.2 (i + 1) _ t (by omega))
  | .mut t' :: ks, x, i, n, t, h => by
      simp only [startS]
      simp only [List.length_cons] at h
      rw [St.set_other _ _ _ _ (by simp), St.set_other _ _ _ _ (by simp; omega)]
      exact startS_tmp ks x.2 (i + 1) n t (by omega)

theorem parsOf_mem : ∀ (ks : List PK) (i m : Nat), m ∈ parsOf ks i → parName + i ≤ m ∧ m < parName + i + ks.length
  | [], _, _, h => by simp [parsOf] at h
  | .val _ :: ks, i, m, h => by have := parsOf_mem ks (i + 1) m h; simp only [List.length_cons]; omega
  | .rptr _ :: ks, i, m, h => by have := parsOf_mem ks (i + 1) m h; simp only [List.length_cons]; omega
  | .ptr _ :: ks, i, m, h => by
      simp only [parsOf, List.mem_cons] at h
      simp only [List.length_cons]
      rcases h with rfl | h
      · omega
      · have := parsOf_mem ks (i + 1) m h; omega
  | .mut _ :: ks, i, m, h => by
      simp only [parsOf, List.mem_cons] at h
      simp only [List.length_cons]
      rcases h with rfl | h
      · omega
      · have := parsOf_mem ks (i + 1) m h; omega

theorem startS_par : ∀ (ks : List PK) (x : DP ks) (i n : Nat), (∀ m ∈ parsOf ks i, m < n) → ∀ m ∈ parsOf ks i, startS ks x i n (.obj m) ≠ .undef
  | [], _, _, _, _, m, h => by simp [parsOf] at h
  | .val t' :: ks, x, i, n, hn, m, h => by
      simp only [startS]
      rw [St.set_other _ _ _ _ (by simp)]
      exact startS_par ks x.2 (i + 1) n hn m h
  | .rptr t' :: ks, x, i, n, hn, m, h => by
      simp only [startS]
      rw [St.set_other _ _ _ _ (by simp)]
      exact startS_par ks x.2 (i + 1) n hn m h
  | .ptr t' :: ks, x, i, n, hn, m, h => by
      simp only [startS]
      by_cases e : m = parName + i
      · subst e; rw [St.set_same]; simp
      · rw [St.set_other _ _ _ _ (by simpa using e), St.set_other _ _ _ _ (by simp), apply_keys _ n _ _ (putV_keys x.1 n).1]
        have hm := hn m h
        simp only [parsOf, List.mem_cons] at h hn
        dsimp only
        rw [if_neg (by omega)]
        have hk2 : (putV t' x.1 n).2.2 = n + t'.owns := (putV_keys (t := t') x.1 n).2
        rw [hk2]
        refine startS_par ks x.2 (i + 1) _ (fun k hk => ?_) m (h.resolve_left e)
        have := hn k (.inr hk); omega
  | .mut t' :: ks, x, i, n, hn, m, h => by
      simp only [startS]
      by_cases e : m = parName + i
      · subst e; rw [St.set_same]; simp
      · rw [St.set_other _ _ _ _ (by simpa using e), St.set_other _ _ _ _ (by simp)]
        simp only [parsOf, List.mem_cons] at h hn
        exact startS_par ks x.2 (i + 1) n (fun k hk => hn k (.inr hk)) m (h.resolve_left e)

theorem takeO_par : ∀ (ks : List PK) (i : Nat) {k : Tk (DO ks)}, (takeO ks i).run S = some k → ∀ m ∈ parsOf ks i, (∃ t v, S (.obj m) = .obj t v) ∨ (∃ f t l, S (.obj m) = .arrc f t l)
  | [], _, _, _, m, h => by simp [parsOf] at h
  | .val _ :: ks, i, k, hr, m, h => takeO_par ks (i + 1) hr m h
  | .rptr _ :: ks, i, k, hr, m, h => takeO_par ks (i + 1) hr m h
  | .ptr t :: ks, i, k, hr, m, h => by
      simp only [takeO, run_get] at hr
      obtain ⟨x, h1, hr⟩ := run_bind_some.1 hr
      obtain ⟨y, h2, hr⟩ := run_bind_some.1 hr
      simp only [parsOf, List.mem_cons] at h
      rcases h with rfl | h
      · obtain ⟨u, hS, _⟩ := takeObj_some h1
        exact .inl ⟨_, _, hS⟩
      · exact takeO_par ks (i + 1) h2 m h
  | .mut t :: ks, i, k, hr, m, h => by
      simp only [takeO, run_get] at hr
      cases hrow : takeRow t (S (.obj (parName + i))) with
      | none => simp [hrow] at hr
      | some l =>
        simp only [hrow] at hr
        obtain ⟨y, h2, hr⟩ := run_bind_some.1 hr
        simp only [parsOf, List.mem_cons] at h
        rcases h with rfl | h
        · obtain ⟨f, hS⟩ := takeRow_some hrow
          exact .inr ⟨_, _, _, hS⟩
        · exact takeO_par ks (i + 1) h2 m h

theorem Bor.of_takeR : ∀ (rs : List RK) {vs : List V} {k : Tk (DR rs)}, (takeR rs vs).run S = some k → Bor S k.bor
  | [], [], k, hr => by simp [takeR] at hr; subst hr; exact .nil
  | [], _ :: _, k, hr => by simp [takeR] at hr
  | _ :: _, [], k, hr => by simp [takeR] at hr
  | r :: rs, v :: vs, k, hr => by
      simp only [takeR, run_bind_some] at hr
      obtain ⟨x, h1, y, h2, hr⟩ := hr
      obtain rfl : x.and y = k := Option.some.inj hr
      refine Bor.append ?_ (Bor.of_takeR rs h2)
      cases r with
      | val t =>
        exact takeV_bor (show (takeV t v).run S = some x from h1)
      | drop =>
        have : x = ⟨(), [], [], [], true⟩ := (Option.some.inj h1).symm
        subst this; exact .nil
      | box t =>
        have h1 : (takeBox t v).run S = some x := h1
        rcases takeBox_some h1 with ⟨_, rfl⟩ | ⟨_, _, w, _, _, _, h3, rfl⟩
        · exact .nil
        · exact takeV_bor h3

theorem Bor.of_takeO : ∀ (ks : List PK) (i : Nat) {k : Tk (DO ks)}, (takeO ks i).run S = some k → Bor S k.bor
  | [], _, k, hr => by simp [takeO] at hr; subst hr; exact .nil
  | .val _ :: ks, i, k, hr => Bor.of_takeO ks (i + 1) hr
  | .rptr _ :: ks, i, k, hr => Bor.of_takeO ks (i + 1) hr
  | .ptr t :: ks, i, k, hr => by
      simp only [takeO, run_get] at hr
      obtain ⟨x, h1, hr⟩ := run_bind_some.1 hr
      obtain ⟨y, h2, hr⟩ := run_bind_some.1 hr
      obtain rfl : x.and y = k := Option.some.inj hr
      obtain ⟨u, hS, h1⟩ := takeObj_some h1
      exact (takeV_bor h1).append (Bor.of_takeO ks (i + 1) h2)
  | .mut t :: ks, i, k, hr => by
      simp only [takeO, run_get] at hr
      cases hrow : takeRow t (S (.obj (parName + i))) with
      | none => simp [hrow] at hr
      | some l =>
        simp only [hrow] at hr
        obtain ⟨y, h2, hr⟩ := run_bind_some.1 hr
        obtain rfl : Tk.and ⟨l, [], [], [], true⟩ y = k := Option.some.inj hr
        exact Bor.append .nil (Bor.of_takeO ks (i + 1) h2)

theorem parsOf_key : ∀ (ks : List PK) (o : DO ks) (i n : Nat), (endO ks o i n).1.map (·.1) = (parsOf ks i).map .obj
  | [], _, _, _ => rfl
  | .val _ :: ks, o, i, n => parsOf_key ks o (i + 1) n
  | .rptr _ :: ks, o, i, n => parsOf_key ks o (i + 1) n
  | .ptr t :: ks, o, i, n => by simp only [endO, parsOf, List.map_cons, parsOf_key ks]
  | .mut t :: ks, o, i, n => by simp only [endO, parsOf, List.map_cons, parsOf_key ks]

/-- What stands under a name after a list of changes. -/
theorem apply_look : ∀ (d : List (Loc × V)) (S : St) (l : Loc), (∃ v, (l, v) ∈ d ∧ S.apply d l = v) ∨ (l ∉ d.map (·.1) ∧ S.apply d l = S l)
  | [], S, l => .inr ⟨by simp, rfl⟩
  | (k, v) :: d, S, l => by
      rw [apply_cons]
      by_cases e : l = k
      · subst e; exact .inl ⟨v, by simp, St.set_same _ _ _⟩
      · rw [St.set_other _ _ _ _ e]
        rcases apply_look d S l with ⟨u, h1, h2⟩ | ⟨h1, h2⟩
        · exact .inl ⟨u, by simp [h1], h2⟩
        · exact .inr ⟨by simp only [List.map_cons, List.mem_cons, not_or]; exact ⟨e, h1⟩, h2⟩

theorem apply_append (d e : List (Loc × V)) (S : St) : S.apply (d ++ e) = (S.apply e).apply d := by
  induction d with
  | nil => rfl
  | cons q d ih => rw [List.cons_append, apply_cons, ih, apply_cons]

theorem callFunc_enter {f : FuncId} {fn : Func} {args : Array Value} {w : World} (hf : P.funcs[f]? = some fn) (hn : (fn.name == "runtime.NumGoroutine") = false) (hb : fn.body.isNone = false) : (callFunc f args).run P w = .ok (.enter f args) w := by
  have hn' : ¬ fn.name = "runtime.NumGoroutine" := by simpa using hn
  have hb' : ¬ fn.body = none := by intro e; rw [e] at hb; simp at hb
  simp [callFunc, hf, hn', hb']

/-- What shows at the end of a body. -/
def endK {ω : Type} (E : Env) (fn : Func) (ps : List PK) (rs : List RK) (S : St) (K : DO ps × DR rs → Option ω) : Option ω :=
  ((resVs E fn.results.toList).bind fun vs => (takeR rs vs).bind fun r => (takeO ps 0).bind fun o => .ret (r, o)).runK S [] fun q _ =>
    match unlike (parsOf ps 0 ++ (q.1.own ++ q.2.own)) && (q.1.bor ++ q.2.bor).all (fun b => !(parsOf ps 0 ++ (q.1.own ++ q.2.own)).any (Nat.beq b.1)) && (q.1.vars ++ q.2.vars).isEmpty with
    | true => K (q.2.x, q.1.x)
    | false => none

theorem end_sound (hT : TabOk P E.tab) {fn : Func} {q : Callee} (ho2 : goodR q.rs = true) (ho3 : goodP q.ps = true) (ho4 : q.ps.length ≤ 500) {x : DP q.ps} {o : DO q.ps} {r : DR q.rs} {c : Cx} (hobj : ObjsR Mu (startS q.ps x 0 startName) c)
    {n : Nat} {us : List V} {d1 : List (Loc × V)} (hnb : n + 2000 ≤ parName) (hput : putR q.rs r n = some (us, d1)) (hlen : d1.length + (endO q.ps o 0 (n + d1.length)).2.length ≤ 1000)
    {S' : St} {c' : Cx} {a' : Act} (h1 : Rel Mu nt S' c' a') (g1 : Goes Mu (parsOf q.ps 0) c c') (hk' : endK E fn q.ps q.rs S' some = some (o, r)) :
    bodyPost P fn (fun | .returned v, w'' => ∃ c'', c''.w = w'' ∧ Ends Mu q c c'' n us d1 o v | _, _ => False) .ret a' c'.w := by
  unfold endK at hk'
  obtain ⟨⟨kr, ko⟩, rs', hr, hcond⟩ := runK_some hk'
  simp only [run_bind_some, run_ret, Option.some.injEq, Prod.mk.injEq] at hr
  obtain ⟨vs, hvs, kr', hkr, ko', hko, rfl, rfl⟩ := hr
  split at hcond
  · rename_i hc
    simp only [Option.some.injEq, Prod.mk.injEq] at hcond
    obtain ⟨rfl, rfl⟩ := hcond
    simp only [Bool.and_eq_true, List.isEmpty_iff] at hc
    obtain ⟨⟨hu, hb⟩, hv⟩ := hc
    have hnd := unlike_nodup hu
    have hdis : ∀ p ∈ kr'.bor ++ ko'.bor, p.1 ∉ parsOf q.ps 0 ++ (kr'.own ++ ko'.own) := by
      intro p hp hmem
      have := List.all_eq_true.1 hb p hp
      simp only [Bool.not_eq_true', List.any_eq_false, nat_beq, decide_eq_true_eq] at this
      exact this _ hmem rfl
    have hvr : kr'.vars = [] := (List.append_eq_nil_iff.1 hv).1
    have hvo : ko'.vars = [] := (List.append_eq_nil_iff.1 hv).2
    obtain ⟨xs, hres, hxs⟩ := results_run hT h1 hvs
    have hB : Bor S' (kr'.bor ++ ko'.bor) := (Bor.of_takeR _ hkr).append (Bor.of_takeO _ _ hko)
    obtain ⟨c1, o1, l1, w1, ρ1, f1, n1⟩ := h1.objs.freezes _ hB
    obtain ⟨kr1, hkr1, xr, or, br, vr⟩ := takeR_frz hB q.rs hkr (fun p hp => by simp [hp]) (fun m hm u hh => hdis _ hh (by simp [hm])) hvr
    obtain ⟨ko1, hko1, xo, oo, bo, vo⟩ := takeO_frz hB q.ps 0 hko (fun p hp => by simp [hp]) (fun m hm u hh => hdis _ hh (by simp [hm])) (fun m hm u hh => hdis _ hh (by simp [hm])) hvo
    have hxs1 : TRv c1 vs xs := by
      clear hvs hkr hkr1 hres hk'
      induction vs generalizing xs with
      | nil => cases xs <;> exact hxs
      | cons v vs ih => cases xs with
        | nil => exact hxs.elim
        | cons y ys => exact ⟨hxs.1.later l1, ih _ hxs.2⟩
    obtain ⟨us', d', r1, e1, len1, k1, rf1, m1⟩ := takeR_put o1 q.rs n ho2 hkr1 br vr hxs1
    rw [xr, hput] at e1
    obtain ⟨rfl, rfl⟩ := Prod.mk.inj (Option.some.inj e1)
    obtain ⟨r2, len2, k2, rf2, pk2, m2⟩ := takeO_put o1 q.ps 0 (n + d1.length) ho3 hko1 bo vo
    rw [xo] at len2 k2 pk2 m2
    rw [or] at rf1 m1
    rw [oo] at rf2 m2
    have hpar : ∀ m ∈ parsOf q.ps 0, parName ≤ m ∧ m < parName + 500 := fun m hm => by
      have := parsOf_mem _ _ _ hm; omega
    have hkeep : ∀ m ∈ parsOf q.ps 0, ¬ (n ≤ m ∧ m < n + (r1 ++ r2).length) := by
      intro m hm hh
      have := hpar m hm
      simp only [List.length_append] at hh
      omega
    have hrl : (r1 ++ r2).length = d1.length + (endO q.ps ko'.x 0 (n + d1.length)).2.length := by
      simp only [List.length_append]; omega
    have c2ρ : ({ c1 with ρ := headRef c1 (parsOf q.ps 0) n (r1 ++ r2) } : Cx).ρ = headRef c1 (parsOf q.ps 0) n (r1 ++ r2) := rfl
    generalize hc2 : ({ c1 with ρ := headRef c1 (parsOf q.ps 0) n (r1 ++ r2) } : Cx) = c2 at c2ρ
    have c2w : c2.w = c1.w := by rw [← hc2]
    have c2R : c2.R = c1.R := by rw [← hc2]
    have c2N : c2.N = c1.N := by rw [← hc2]
    have hmv : Moves c1 c2 := ⟨c2w, fun b o hr => ⟨by rw [c2R]; exact hr, by rw [c2N]; exact id⟩⟩
    have hfit : ∀ l, Fits c1 c2 l := fun l m hm b hb => by rw [c2N]; exact id
    have hnm : Named c2 n (r1 ++ r2) := fun i r hr => by rw [c2ρ]; exact headRef_new hkeep hr
    have hkp : ∀ m ∈ parsOf q.ps 0, c2.ρ m = c1.ρ m := fun m hm => by rw [c2ρ]; simp [headRef, hm]
    obtain ⟨p1, p2⟩ := m1 c2 hmv (hfit _) hnm.left
    obtain ⟨p3, p4⟩ := m2 c2 hmv (hfit _) (by have := hnm.right; rwa [← len1] at this) hkp
    have hrefs : Refs c1 (kr'.own ++ ko'.own) (r1 ++ r2) := rf1.append rf2
    have hkeys : Keys n (d1 ++ (endO q.ps ko'.x 0 (n + d1.length)).2) := k1.append k2
    have hdok : DOk c2 n (d1 ++ (endO q.ps ko'.x 0 (n + d1.length)).2) := p2.append p3
    have pkeys := parsOf_key q.ps ko'.x 0 (n + d1.length)
    have hlk : ∀ m, (m ∈ parsOf q.ps 0 ∨ inNew n (r1 ++ r2).length m) → ObjR c2 (emptyS.apply ((endO q.ps ko'.x 0 (n + d1.length)).1 ++ (d1 ++ (endO q.ps ko'.x 0 (n + d1.length)).2)) (.obj m)) (c2.ρ m) := by
      intro m hm
      rw [apply_append]
      rcases apply_look (endO q.ps ko'.x 0 (n + d1.length)).1 (emptyS.apply (d1 ++ (endO q.ps ko'.x 0 (n + d1.length)).2)) (.obj m) with ⟨v, hv1, hv2⟩ | ⟨hv1, hv2⟩
      · rw [hv2]; exact p4 _ hv1 m rfl
      · rw [hv2, apply_keys _ n _ _ hkeys]
        rw [pkeys] at hv1
        have hm' : inNew n (r1 ++ r2).length m := hm.resolve_left fun hh => hv1 (List.mem_map.2 ⟨m, hh, rfl⟩)
        have hin : n ≤ m ∧ m < n + (d1 ++ (endO q.ps ko'.x 0 (n + d1.length)).2).length := by
          rw [List.length_append, ← hrl]; exact hm'
        simp only [if_pos hin]
        have hlt : m - n < (d1 ++ (endO q.ps ko'.x 0 (n + d1.length)).2).length := by omega
        have := hdok (m - n) (d1 ++ (endO q.ps ko'.x 0 (n + d1.length)).2)[m - n] (by simp [hlt])
        rw [show n + (m - n) = m by omega] at this
        rw [List.getElem?_eq_getElem hlt]
        exact this
    have hout : ∀ m, ¬ (m ∈ parsOf q.ps 0 ∨ inNew n (r1 ++ r2).length m) → emptyS.apply ((endO q.ps ko'.x 0 (n + d1.length)).1 ++ (d1 ++ (endO q.ps ko'.x 0 (n + d1.length)).2)) (.obj m) = .undef := by
      intro m hm
      rw [apply_append]
      rcases apply_look (endO q.ps ko'.x 0 (n + d1.length)).1 (emptyS.apply (d1 ++ (endO q.ps ko'.x 0 (n + d1.length)).2)) (.obj m) with ⟨v, hv1, hv2⟩ | ⟨hv1, hv2⟩
      · have : (Loc.obj m) ∈ (endO q.ps ko'.x 0 (n + d1.length)).1.map (·.1) := List.mem_map.2 ⟨_, hv1, rfl⟩
        rw [pkeys] at this
        obtain ⟨m', hm', e⟩ := List.mem_map.1 this
        cases e
        exact (hm (.inl hm')).elim
      · rw [hv2, apply_keys _ n _ _ hkeys]
        have hin : ¬ (n ≤ m ∧ m < n + (d1 ++ (endO q.ps ko'.x 0 (n + d1.length)).2).length) := by
          rw [List.length_append, ← hrl]; exact fun hh => hm (.inr hh)
        simp only [if_neg hin]
        rfl
    have hobjs := head_objs o1 hrefs hnd hkeep c2ρ c2w c2R c2N hlk hout
    have gfr : Goes Mu (parsOf q.ps 0) c' c1 := (Step.frz l1 w1 n1).goes
    refine ⟨h1.defers, oneX xs, hres, c2, c2w.trans w1, ?_⟩
    have g12 := g1.trans gfr
    have hpr : ∀ m ∈ parsOf q.ps 0, c2.ρ m = c.ρ m := by
      intro m hm
      rw [hkp m hm, ρ1 m (fun v hv => hdis _ hv (by simp [hm]))]
      have hne : c.ρ m ≠ .none := by
        intro hn0
        have h0 := hobj.obj m
        rw [hn0] at h0
        have := startS_par q.ps x 0 startName (fun k hk => Nat.lt_trans (hpar k hk).2 (Nat.add_lt_add_left (by decide : 500 < 1000) parName)) m hm
        cases hs : startS q.ps x 0 startName (.obj m) <;> rw [hs] at h0 <;> first | exact this hs | exact h0
      have hob := h1.objs.obj m
      have htk := takeO_par q.ps 0 hko m hm
      rcases g1.par m hm hne with h2 | h2 | ⟨b', t', len', cap', h3, h4⟩
      · rw [h2] at hob
        rcases htk with ⟨t, v, hS⟩ | ⟨f', t, l, hS⟩ <;> rw [hS] at hob <;> exact hob.elim
      · exact h2
      · rw [h4] at hob
        rcases htk with ⟨t, v, hS⟩ | ⟨f', t, l, hS⟩ <;> rw [hS] at hob <;> exact hob.elim
    exact {
      goes := ⟨by rw [c2N]; exact g12.new, fun b o hr => by rw [c2R]; exact g12.more b o hr, fun b o u hr hc => by rw [c2w]; exact g12.mem b o u hr hc, by rw [c2w]; exact g12.size,
        fun b o hr => by rw [c2R] at hr; rw [c2w]; exact g12.newR b o hr, fun b hb hm => by rw [c2w]; exact g12.kept b hb hm, by rw [c2w]; exact g12.os, by rw [c2w]; exact g12.tape, by rw [c2w]; exact g12.output,
        fun m hm _ => .inr (.inl (hpr m hm))⟩
      val := p1.oneV (putR_solid _ _ _ hput)
      objs := hobjs
      par := hpr
      other := fun m h1 h2 => by
        rw [c2ρ]
        unfold headRef
        rw [if_neg h1, if_neg (by rw [hrl]; exact h2)] }
  · simp at hcond

theorem fn_sound (hE : EnvOk P E) (hm : P.follows .mixedOrders = true) {f : FuncId} {fn : Func} {q : Callee} (hf : P.funcs[f]? = some fn) (hn : (fn.name == "runtime.NumGoroutine") = false)
    (hrun : ∀ x z, q.F x = some z → ∃ fuel, execFn E fuel fn q.ps q.rs x some = some z) : Contract P f q := by
  intro Mu c args x o r hF hMu hsz hobj htmp n us d1 hnb hput hlen
  obtain ⟨fuel, hx⟩ := hrun x (o, r) hF
  unfold execFn at hx
  split at hx
  · rename_i code hbody hok
    simp only [Bool.and_eq_true] at hok
    obtain ⟨⟨⟨ho1, ho2⟩, ho3⟩, ho4⟩ := hok
    have ho1 : q.ps.length ≤ fn.ntmps := Nat.le_of_ble_eq_true ho1
    have ho4 : q.ps.length ≤ 500 := Nat.le_of_ble_eq_true ho4
    have hE' : EnvOk P { E with nt := fn.ntmps, pars := parsOf q.ps 0 } := ⟨hE.tab, hE.deep, hE.call⟩
    unfold CallF
    rw [callFunc_enter hf hn (by rw [hbody]; rfl)]
    refine calls_of_wp hf hbody ?_
    refine exec_sound (Mu := Mu) hE' hm code 0 _ c _ _ _ hMu ⟨?_, rfl, ?_, hobj⟩ hx ?_
    · simp [hsz]; omega
    · intro t
      have := htmp t
      by_cases ht : t < args.size
      · have e : (args ++ Array.replicate (fn.ntmps - args.size) undef).getD t undef = args.getD t undef := by
          simp [Array.getD_eq_getD_getElem?, Array.getElem?_append_left ht]
        show TR c (startS q.ps x 0 (parName + 1000) (.tmp t)) ((args ++ Array.replicate (fn.ntmps - args.size) undef).getD t undef)
        rw [e]; exact this
      · show TR c (startS q.ps x 0 (parName + 1000) (.tmp t)) _
        rw [startS_tmp q.ps x 0 _ t (by omega)]
        trivial
    · intro e S' c' a' hk h1 g1
      have main : bodyPost P fn (fun | .returned v, w'' => ∃ c'', c''.w = w'' ∧ Ends Mu q c c'' n us d1 o v | _, _ => False) .ret a' c'.w ∧ (e = .normal ∨ e = .ret) := by
        have hk' : endK E fn q.ps q.rs S' some = some (o, r) ∧ (e = .normal ∨ e = .ret) := by
          cases e <;> first | exact ⟨hk, .inl rfl⟩ | exact ⟨hk, .inr rfl⟩ | (simp at hk)
        obtain ⟨hk', he⟩ := hk'
        exact ⟨end_sound hE.tab ho2 ho3 ho4 hobj hnb hput hlen h1 g1 hk', he⟩
      rcases main with ⟨hb, rfl | rfl⟩
      · exact hb
      · exact hb
  · simp at hx

end
end Go.Eng
