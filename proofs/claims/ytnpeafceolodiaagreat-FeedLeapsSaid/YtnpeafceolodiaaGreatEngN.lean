/- The engine, part N: literals. -/
import Derived.Test.YtnpeafceolodiaaGreatEngM
import Derived.Great.FillDense
namespace Go.Eng
open Go.RowKit

theorem foldl_put (off : Nat) : ∀ (vs : List Value) (k : Nat) (cs : Array Value), off + k + vs.length ≤ cs.size →
    ((vs.zipIdx k).foldl (fun (cs : Array Value) (q : Value × Nat) => cs.setIfInBounds (off + q.2) q.1) cs).toList = cs.toList.take (off + k) ++ vs ++ cs.toList.drop (off + k + vs.length)
  | [], k, cs, h => by simp
  | v :: vs, k, cs, h => by
      have h' : off + k + (vs.length + 1) ≤ cs.size := by simpa using h
      simp only [List.zipIdx_cons, List.foldl_cons]
      rw [foldl_put off vs (k + 1) _ (by simp; omega)]
      simp only [Array.toList_setIfInBounds]
      apply List.ext_getElem?
      intro j
      simp only [List.getElem?_append, List.getElem?_take, List.getElem?_drop, List.length_append, List.length_take, List.length_drop, List.length_set, Array.length_toList, List.length_cons, List.getElem?_set, List.getElem?_cons]
      by_cases c1 : j < off + k <;> by_cases c2 : j = off + k <;> by_cases c3 : j < off + k + (vs.length + 1) <;> first | omega | skip
      · simp (disch := omega) only [if_pos, if_neg, Nat.min_eq_left]
      · subst c2
        simp (disch := omega) only [if_pos, if_neg, Nat.min_eq_left]
        simp
      · simp (disch := omega) only [if_pos, if_neg, Nat.min_eq_left]
        rw [show j - (off + (k + 1)) = j - (off + k) - 1 by omega]
      · simp (disch := omega) only [if_pos, if_neg, Nat.min_eq_left]
        congr 1; omega

section
variable {P : Program} {E : Env} {Mu : Nat → Prop} {nt : Nat} {S : St} {c : Cx} {a : Act} {o : Oper} {δ : List (Loc × V)}

theorem fill_sound (h : Rel Mu nt S c a) {place : Nat → Option (Nat × Nat)} {t : Ty} (hpl : ∀ i o u, t.at [i] = some (o, u) → place i = some (o, u.size)) :
    ∀ (ps : List (Nat × Operand)) (vs : List (Nat × V)) (x x' : V) (cells : Array Value), (evParts ps).run S = some vs → buildS t vs x = some x' → conf t x = true → CR c x cells.toList →
      ∃ cells', Instr.fill place cells (ps.map fun q => (q.1, a.eval q.2)) = some cells' ∧ conf t x' = true ∧ CR c x' cells'.toList
  | [], vs, x, x', cells, hr, hb, hc, hx => by
      simp [evParts] at hr; subst hr
      simp [buildS] at hb; subst hb
      exact ⟨cells, by simp [Instr.fill], hc, hx⟩
  | (i, y) :: ps, vs, x, x', cells, hr, hb, hc, hx => by
      simp only [evParts, run_bind_some, run_ret, Option.some.injEq] at hr
      obtain ⟨v, h1, vs', h2, rfl⟩ := hr
      simp only [buildS] at hb
      cases hat : t.at [i] with
      | none => simp [hat] at hb
      | some q =>
        obtain ⟨off, u⟩ := q
        simp only [hat] at hb
        cases hcv : conf u v with
        | false => simp [hcv] at hb
        | true =>
          simp only [hcv] at hb
          cases hput : putAt x [i] v with
          | none => simp [hput] at hb
          | some x1 =>
            simp only [hput] at hb
            obtain ⟨q1, _⟩ := (ev_sound h h1).cells hcv
            have hlen := CR.length _ _ _ hcv q1
            have hsz := CR.length _ _ _ hc hx
            have hle := Ty.at_le _ _ _ _ hat
            obtain ⟨r1, r2⟩ := CR.putAt t [i] x v x1 _ _ off u hc hx hat hput hcv q1
            have hlen' : (a.eval y).cells.size = u.size := by simpa using hlen
            have hfit : off + (a.eval y).cells.size ≤ cells.size := by
              have : cells.size = t.size := by simpa using hsz
              omega
            have hput' : ((a.eval y).cells.zipIdx.foldl (fun (cs : Array Value) (q : Value × Nat) => cs.setIfInBounds (off + q.2) q.1) cells).toList = cells.toList.take off ++ (a.eval y).cells.toList ++ cells.toList.drop (off + u.size) := by
              have := foldl_put off (a.eval y).cells.toList 0 cells (by simpa using hfit)
              rw [← Array.foldl_toList, Array.toList_zipIdx]
              rw [← hlen]; simpa using this
            obtain ⟨cells', w1, w2, w3⟩ := fill_sound h hpl ps vs' x1 x' _ h2 hb r1 (by rw [hput']; exact r2)
            refine ⟨cells', ?_, w2, w3⟩
            simp only [List.map_cons, Instr.fill, hpl i off u hat]
            rw [if_neg]
            · exact w1
            · simp [hlen']; omega

theorem run_places (hT : TabOk P E.tab) : ∀ (fs : List Field) (t : Ty) (off : Nat) (w : World), Flds E.tab fs t off →
    ∃ ps : List (Nat × Nat), (fs.mapM fun (f : Field) => (Prod.mk f.offset <$> sizeOf f.type : Sem (Nat × Nat))).run P w = .ok ps w ∧ ∀ i o u, t.at [i] = some (o, u) → ps[i]? = some (off + o, u.size)
  | [], .unit, off, w, _ => ⟨[], by simp, fun i o u h => by simp [Ty.at] at h⟩
  | f :: fs, .prod a b, off, w, h => by
      obtain ⟨ps, h1, h2⟩ := run_places hT fs b (off + a.size) w h.2.2.2
      refine ⟨(off, a.size) :: ps, ?_, ?_⟩
      · have := (hT _ _ h.2.2.1).size_run (P := P) w
        simp [List.mapM_cons, this, h1, h.1]
      · intro i o u hat
        cases i with
        | zero =>
          simp [Ty.at, Ty.at_nil] at hat
          obtain ⟨rfl, rfl⟩ := hat
          simp
        | succ i =>
          simp only [Ty.at, Option.map_eq_some_iff, Prod.exists, Prod.mk.injEq] at hat
          obtain ⟨o1, u1, hat, rfl, rfl⟩ := hat
          have := h2 i o1 u1 hat
          simp [this]; omega
  | [], .prod _ _, _, _, h => h.elim
  | _ :: _, .unit, _, _, h => h.elim
  | [], .int _, _, _, h => h.elim
  | _ :: _, .int _, _, _, h => h.elim
  | [], .bool, _, _, h => h.elim
  | _ :: _, .bool, _, _, h => h.elim
  | [], .str, _, _, h => h.elim
  | _ :: _, .str, _, _, h => h.elim
  | [], .arr _ _, _, _, h => h.elim
  | _ :: _, .arr _ _, _, _, h => h.elim
  | [], .sl _ _, _, _, h => h.elim
  | _ :: _, .sl _ _, _, _, h => h.elim
  | [], .opq, _, _, h => h.elim
  | _ :: _, .opq, _, _, h => h.elim
  | [], .ifc, _, _, h => h.elim
  | _ :: _, .ifc, _, _, h => h.elim

theorem zval_arr (t : Ty) : (if t.isAgg then Value.agg (zeroCells t).toArray else (zeroCells t).getD 0 Go.undef).cells = (zeroCells t).toArray := by
  apply Array.ext'; rw [zval_cells]

theorem op_build (hT : TabOk P E.tab) (h : Rel Mu nt S c a) {d : Nat} (hd : o.dst = some d) (hdn : d < nt) {T : TypeId} {ps : Array (Nat × Operand)} (ho : o.op = .build T ps) {t : Ty} (ht : E.tab T = some t) (hagg : t.isAgg = true)
    {vs : List (Nat × V)} (hv : (evParts ps.toList).run S = some vs) {v : V} (hb : buildS t vs (zeroV t) = some v) : OpOk P Mu nt S c a o [(.tmp d, v)] := by
  have hk := hT T t ht
  have hd' := hk.desc
  have hz := hk.zero_run (P := P) c.w
  have hzc := zval_arr t
  generalize (if t.isAgg then Value.agg (zeroCells t).toArray else (zeroCells t).getD 0 Go.undef) = z at hz hzc
  have hz0 : CR c (zeroV t) (zeroCells t).toArray.toList := by simpa using CR.zero c t
  have hz1 := conf_zero t hk.good
  have hps : (ps.map fun q => (q.1, a.eval q.2)).toList = ps.toList.map fun q => (q.1, a.eval q.2) := by simp
  have fin : ∀ cells', conf t v = true → CR c v cells'.toList → (execOp a.eval o).run P c.w = .ok (.value (.agg cells')) c.w → OpOk P Mu nt S c a o [(.tmp d, v)] := by
    intro cells' q1 q2 q3
    have := TR.of_cells q1 q2
    rw [hagg] at this
    exact OpOk.value' h hd hdn q3 (by simpa using this)
  have st : ∀ fs, P.underlying T = some (.struct fs) → Flds E.tab fs.toList t 0 → OpOk P Mu nt S c a o [(.tmp d, v)] := by
    intro fs hu hf
    obtain ⟨pl, h1, h2⟩ := run_places hT fs.toList t 0 c.w hf
    obtain ⟨cells', q1, q2, q3⟩ := fill_sound h (place := (pl.toArray[·]?)) (fun i o u hat => by simpa using h2 i o u hat) ps.toList vs _ v _ hv hb hz1 hz0
    refine fin cells' q2 q3 ?_
    have hmap : (fs.mapM fun (f : Field) => (Prod.mk f.offset <$> sizeOf f.type : Sem (Nat × Nat))).run P c.w = .ok pl.toArray c.w := by
      rw [Array.mapM_eq_mapM_toList]
      simp [h1]
    have hq : Instr.fill (fun x => pl[x]?) (zeroCells t).toArray (ps.toList.map fun q => (q.1, a.eval q.2)) = some cells' := by simpa using q1
    simp [execOp, ho, Instr.build, hz, run_underlying hu, hmap, hzc, hq]
  cases t <;> try (simp [Ty.isAgg] at hagg; done)
  case unit => obtain ⟨fs, h1, _, h3⟩ := hd'; exact st fs h1 h3
  case prod x y => obtain ⟨fs, h1, _, h3⟩ := hd'; exact st fs h1 h3
  case arr n k =>
    obtain ⟨e, i, hu, hue, hi, hsz⟩ := hd'
    obtain ⟨cells', q1, q2, q3⟩ := fill_sound h (place := fun i => some (i * 1, 1)) (fun i o u hat => by
      simp [Ty.at] at hat
      obtain ⟨_, rfl, rfl⟩ := hat
      simp [Ty.size]) ps.toList vs _ v _ hv hb hz1 hz0
    refine fin cells' q2 q3 ?_
    have hq : Instr.fill (fun i => some (i, 1)) (zeroCells (.arr n k)).toArray (ps.toList.map fun q => (q.1, a.eval q.2)) = some cells' := by simpa using q1
    simp [execOp, ho, Instr.build, hz, run_underlying hu, hzc, sizeOf, typeInfo, hi, hsz, hq]

theorem Froze.live {r r' : Ref} (h : Froze r r') : r ≠ .none := by
  obtain ⟨_, _, _, _, rfl, _⟩ := h
  simp

theorem elemsV_bor : ∀ {t : Ty} {vs : List V} {k : Tk (List t.den)}, (elemsV t vs).run S = some k → Bor S k.bor
  | _, [], k, hr => by simp [elemsV] at hr; subst hr; exact .nil
  | t, v :: vs, k, hr => by
      simp only [elemsV, run_bind_some, run_ret, Option.some.injEq] at hr
      obtain ⟨x, h1, y, h2, rfl⟩ := hr
      exact (takeV_bor h1).append (elemsV_bor h2)

theorem elemsV_rep (h : ObjsR Mu S c) {S' : St} {c' : Cx} (hl : Later c c') (h' : ObjsR Mu S' c') : ∀ {t : Ty} {vs : List V} {k : Tk (List t.den)} {xs : List Value}, (elemsV t vs).run S = some k → TRv c vs xs → k.own = [] → k.vars = [] →
    (∀ q ∈ k.bor, Froze (c.ρ q.1) (c'.ρ q.1) ∧ S' (.obj q.1) = q.2) → RepL (Rep (c'.Rf k.fr) c'.w t) k.x (xs.flatMap fun x => x.cells.toList) ∧ (∀ x ∈ xs, x.cells.size = t.size) ∧ xs.length = k.x.length
  | t, [], k, xs, hr, hx, ho, hv, hb => by
      simp [elemsV] at hr; subst hr
      match xs, hx with
      | [], _ => exact ⟨rfl, by simp, rfl⟩
  | t, v :: vs, k, xs, hr, hx, ho, hv, hb => by
      simp only [elemsV, run_bind_some, run_ret, Option.some.injEq] at hr
      obtain ⟨x, h1, y, h2, rfl⟩ := hr
      match xs, hx with
      | z :: xs, ⟨hz, hxs⟩ =>
        simp at ho hv
        have q1 := (hz.cells (takeV_conf h1)).1
        have r1 := takeV_rep h hl h' h1 q1 ho.1 hv.1 (fun q hq => hb q (by simp [hq]))
        obtain ⟨r2, r3, r4⟩ := elemsV_rep h hl h' h2 hxs ho.2 hv.2 (fun q hq => hb q (by simp [hq]))
        refine ⟨?_, ?_, by simpa using r4⟩
        · rw [List.flatMap_cons]
          exact ⟨_, _, rfl, Rep.weaken (by simp; exact fun h _ => h) r1, r2.mono fun x cs hh => Rep.weaken (by simp) hh⟩
        · intro u hu
          rcases List.mem_cons.1 hu with rfl | hu
          · simpa using Rep.length _ _ _ r1
          · exact r3 u hu

theorem evParts_sound (h : Rel Mu nt S c a) : ∀ {ps : List (Nat × Operand)} {vs : List (Nat × V)}, (evParts ps).run S = some vs → TRv c (vs.map (·.2)) (ps.map fun q => a.eval q.2) ∧ vs.map (·.1) = ps.map (·.1)
  | [], vs, hr => by simp [evParts] at hr; subst hr; exact ⟨trivial, rfl⟩
  | (i, y) :: ps, vs, hr => by
      simp only [evParts, run_bind_some, run_ret, Option.some.injEq] at hr
      obtain ⟨v, h1, vs', h2, rfl⟩ := hr
      obtain ⟨q1, q2⟩ := evParts_sound h h2
      exact ⟨⟨ev_sound h h1, q1⟩, by simp [q2]⟩

theorem zip_range : ∀ (ps : List (Nat × Operand)) (n k : Nat) (f : Operand → Value), ps.map (·.1) = List.range' k n → (ps.map fun q => (q.1, f q.2)) = ((ps.map fun q => f q.2).zipIdx k).map fun x => (x.2, x.1)
  | [], _, _, _, _ => rfl
  | (i, y) :: ps, 0, k, f, h => by simp at h
  | (i, y) :: ps, n + 1, k, f, h => by
      simp only [List.map_cons, List.range'_succ, List.cons.injEq] at h
      obtain ⟨rfl, h⟩ := h
      simp only [List.map_cons, List.zipIdx_cons]
      rw [zip_range ps n (i + 1) f h]

theorem op_buildSlice (hT : TabOk P E.tab) (hMu : ∀ b, c.w.heap.size ≤ b → Mu b) (h : Rel Mu nt S c a) {d : Nat} (hd : o.dst = some d) (hdn : d < nt) {T : TypeId} {n : Nat} {ps : Array (Nat × Operand)} (ho : o.op = .buildSlice T n ps) {md : Md} {t : Ty} (ht : E.tab T = some (.sl md t))
    {vs : List (Nat × V)} (hv : (evParts ps.toList).run S = some vs) (hn : vs.map (·.1) = List.range n ∧ n * t.size ≤ 65536) {y : Tk (List t.den)} (hy : (elemsV t (vs.map (·.2))).run S = some y) (hown : y.own = []) (hvars : y.vars = [])
    (hu : S (.obj d) = .undef) : OpOk P Mu nt S c a o ((.tmp d, .own d) :: (.obj d, .arrc y.fr t y.x) :: frzs y.bor) := by
  have hkT := hT T _ ht
  obtain ⟨e, he1, he2⟩ := hkT.desc
  have hk := hT e _ he2
  have hg := hkT.good
  simp [Ty.good] at hg
  have hz := hg.2
  have hbor := elemsV_bor hy
  obtain ⟨c1, o1, l1, w1, ρ1, f1, n1⟩ := h.objs.freezes y.bor hbor
  obtain ⟨t1, t2⟩ := evParts_sound h hv
  obtain ⟨r1, r2, r3⟩ := elemsV_rep h.objs l1 o1 hy t1 hown hvars (fun q hq => ⟨f1 q hq, frzs_at hbor hq⟩)
  have hnd : ∀ v, (d, v) ∉ y.bor := by
    intro v hv'
    obtain ⟨f, t', l, hS, _⟩ := hbor _ hv'
    simp only at hS
    rw [hu] at hS; simp at hS
  have hu1 : S.apply (frzs y.bor) (.obj d) = .undef := by
    rcases frzs_obj S y.bor d hbor with ⟨v, hm, _⟩ | ⟨_, hh⟩
    · exact (hnd v hm).elim
    · rw [hh, hu]
  have hps : ps.toList.map (·.1) = List.range' 0 n := by rw [← t2, hn.1, List.range_eq_range']
  have hlen : y.x.length = n := by
    rw [← r3]
    have := congrArg List.length hps
    simpa using this
  have hzip := zip_range ps.toList n 0 a.eval hps
  obtain ⟨z, hzr, hzc⟩ : ∃ z, (zeroValue e).run P c.w = .ok z c.w ∧ z.cells = (zeroCells t).toArray := ⟨_, hk.zero_run c.w, zval_arr t⟩
  have hfill := Great.fill_whole hz (ps.toList.map fun q => a.eval q.2) ((Array.range (n * t.size)).map fun i => (if n * t.size = 0 then (#[] : Array Value) else z.cells)[i % (if n * t.size = 0 then (#[] : Array Value) else z.cells).size]!) r2 (by simp [← hlen, ← r3])
  have hcl := RepL.length (fun x cs => Rep.length t x cs) r1
  generalize hall : (List.map (fun q => a.eval q.2) ps.toList).flatMap (fun x => x.cells.toList) = all at *
  obtain ⟨o2, l2⟩ := o1.newObj (m := d) (by rw [w1]; exact hMu) hu1 (.cells all.toArray e) (v := .arrc y.fr t y.x) (r := .arr (some c.w.heap.size) t n n) (by rw [w1]; rfl) (fun c' hl hw hB => by
    refine ⟨rfl, hk.good, hz, hlen.symm, Nat.le_refl _, ?_, fun _ => ?_, all.toArray, e, ?_, ?_, ?_⟩
    · have h2 := Nat.le_mul_of_pos_right n hz
      have := hn.2
      simp only [maxLen]; omega
    · rw [hB, l1.base]; exact h.objs.base _ (Nat.le_refl _)
    · rw [hw, ← w1]; exact heap_alloc_new _ _
    · simpa [hlen] using hcl
    · have e0 : all.toArray.toList.take (n * t.size) = all := by
        rw [← hlen, ← hcl]; simp
      rw [e0]
      exact r1.mono (Rep.later (hl.moref _) (hl.memf _) t))
  refine OpOk.go hd hdn (h.objs' (l1.trans l2) (fun t => by rw [St.set_other _ _ _ _ (by simp), frzs_tmp]) o2) ((Step.frz l1 w1 n1).trans (Step.newObj l2)) (x := .slice (some ⟨c.w.heap.size, 0, none⟩) n n) ?_ ?_ rfl
  · have hle : ¬ (n * t.size > 16777216) := by have := hn.2; omega
    have hmap : (ps.map fun q => (q.1, a.eval q.2)).toList = ((List.map (fun q => a.eval q.2) ps.toList).zipIdx 0).map fun x => (x.2, x.1) := by
      rw [← hzip]; simp
    by_cases h0 : n * t.size = 0
    · have hn0 : n = 0 := by
        rcases Nat.mul_eq_zero.1 h0 with h | h
        · exact h
        · omega
      subst hn0
      have hp0 : ps.toList = [] := by
        have := congrArg List.length hps
        exact List.eq_nil_of_length_eq_zero (by simpa using this)
      have hp1 : ps = #[] := by apply Array.ext'; simpa using hp0
      subst hp1
      have ha0 : all = [] := by rw [← hall]; simp
      subst ha0
      simp [execOp, ho, Instr.buildSlice, run_underlying he1, hk.size_run, Instr.fill, newRow, Cx.setW, Cx.setRef, w1]
      have e9 : ∀ f : Nat → Value, Array.map f (Array.range 0) = #[] := fun f => by apply Array.ext'; simp
      rw [e9]
    · simp only [h0, if_false] at hfill
      simp only [execOp, ho, Instr.buildSlice, Sem.run_bind, run_underlying he1, hk.size_run, Result.andThen_ok, if_neg h0, if_neg hle, hzr, Sem.run_pure, hmap]
      simp only [hfill]
      simp [newRow, Cx.setW, Cx.setRef, w1]
  · simp only [TR, TR1, CR]
    refine ⟨_, rfl, ?_⟩
    have : ((c1.setRef d (.arr (some c.w.heap.size) t n n)).setW (c1.w.alloc (.cells all.toArray e))).ρ d = .arr (some c.w.heap.size) t n n := by simp [Cx.setW, Cx.setRef]
    rw [this]
    rfl

end
end Go.Eng
