/- The engine, part E: types of the program; loads and stores. -/
import Derived.Test.YtnpeafceolodiaaGreatEngD
namespace Go.Eng
open Go.RowKit

def zeroCells : Ty → List Value
  | .unit => []
  | .int k => [.int k 0]
  | .bool => [.bool false]
  | .str => [.string .empty]
  | .arr n k => List.replicate n (.int k 0)
  | .sl _ _ => [.slice none 0 0]
  | .prod a b => zeroCells a ++ zeroCells b
  | .opq => [.pointer none]
  | .ifc => [.nilIface]

def Flds (tab : TypeId → Option Ty) : List Field → Ty → Nat → Prop
  | [], .unit, _ => True
  | f :: fs, .prod a b, off => f.offset = off ∧ f.name ≠ "_" ∧ tab f.type = some a ∧ Flds tab fs b (off + a.size)
  | _, _, _ => False

def TyDesc' (P : Program) (tab : TypeId → Option Ty) (T : TypeId) : Ty → Prop
  | .int k => P.underlying T = some (.int k)
  | .bool => P.underlying T = some .bool
  | .str => P.underlying T = some .string
  | .arr n k => ∃ e i, P.underlying T = some (.array n e) ∧ P.underlying e = some (.int k) ∧ P.info? e = some i ∧ i.size = 1
  | .sl _ u => ∃ e, P.underlying T = some (.slice e) ∧ tab e = some u
  | .opq => ∃ e, P.underlying T = some (.pointer e)
  | .ifc => ∃ ms, P.underlying T = some (.interface ms)
  | t => ∃ fs, P.underlying T = some (.struct fs) ∧ P.stoodInHeld T = false ∧ Flds tab fs.toList t 0

structure TyOk (P : Program) (tab : TypeId → Option Ty) (T : TypeId) (t : Ty) : Prop where
  info : ∃ i, P.info? T = some i ∧ i.size = t.size ∧ i.bytes ≤ 1024 ∧ i.zero = some (if t.isAgg then .agg (zeroCells t).toArray else (zeroCells t).getD 0 Go.undef)
  good : t.good = true
  eqg : t.flat = true → P.eqGuardType P.depth T = false
  desc : TyDesc' P tab T t

def TabOk (P : Program) (tab : TypeId → Option Ty) : Prop := ∀ T t, tab T = some t → TyOk P tab T t

theorem okInt_zero (k : IntKind) : okInt k 0 := by unfold okInt; cases k <;> decide

theorem Ty.at_le : ∀ (t : Ty) (p : List Nat) (o : Nat) (u : Ty), t.at p = some (o, u) → o + u.size ≤ t.size := by
  intro t
  induction t with
  | prod a b iha ihb =>
    intro p o u h
    match p with
    | [] => simp [Ty.at] at h; obtain ⟨rfl, rfl⟩ := h; simp
    | 0 :: p => simp [Ty.at] at h; have := iha p o u h; simp [Ty.size]; omega
    | (i + 1) :: p =>
      simp [Ty.at] at h
      obtain ⟨o', h, rfl⟩ := h
      have := ihb (i :: p) o' u h
      simp [Ty.size]; omega
  | arr n k =>
    intro p o u h
    match p with
    | [] => simp [Ty.at] at h; obtain ⟨rfl, rfl⟩ := h; simp
    | [i] => simp [Ty.at] at h; obtain ⟨h, rfl, rfl⟩ := h; simp [Ty.size]; omega
    | i :: j :: p => simp [Ty.at] at h
  | _ =>
    intro p o u h
    match p with
    | [] => simp [Ty.at] at h; obtain ⟨rfl, rfl⟩ := h; simp
    | i :: p => simp [Ty.at] at h

theorem CR.zero (c : Cx) : ∀ (t : Ty), CR c (zeroV t) (zeroCells t)
  | .unit => by simp [zeroV, zeroCells, CR, CRs]
  | .int k => by simp [zeroV, zeroCells, CR, okInt_zero]
  | .bool => by simp [zeroV, zeroCells, CR]
  | .str => by simp [zeroV, zeroCells, CR]
  | .arr n k => by
      simp only [zeroV, zeroCells, CR, RepA]
      exact ⟨by simp, fun x hx => by rw [(List.mem_replicate.1 hx).2]; exact okInt_zero k, by simp⟩
  | .sl _ _ => by simp [zeroV, zeroCells, CR]
  | .prod a b => consN_cells _ _ _ _ (CR.zero c a) (CR.zero c b)
  | .opq => by simp [zeroV, zeroCells, CR]
  | .ifc => by simp [zeroV, zeroCells, CR]

theorem Ty.good_prod {a b : Ty} (h : (Ty.prod a b).good = true) : a.good = true ∧ b.good = true ∧ (b = .unit ∨ ∃ p q, b = .prod p q) := by
  simp [Ty.good] at h
  refine ⟨h.1.1, h.1.2, ?_⟩
  cases b <;> simp_all

theorem zeroV_node : ∀ {t : Ty}, (t = .unit ∨ ∃ a b, t = .prod a b) → t.good = true → ∃ vs, zeroV t = .node vs
  | .unit, _, _ => ⟨[], rfl⟩
  | .prod a b, _, hg => by
      obtain ⟨_, h2, h3⟩ := Ty.good_prod hg
      obtain ⟨vs, e⟩ := zeroV_node h3 h2
      exact ⟨zeroV a :: vs, by simp only [zeroV, e, consN_node]⟩
  | .int _, h, _ => by simp at h
  | .bool, h, _ => by simp at h
  | .str, h, _ => by simp at h
  | .arr _ _, h, _ => by simp at h
  | .sl _ _, h, _ => by simp at h
  | .opq, h, _ => by simp at h
  | .ifc, h, _ => by simp at h

theorem conf_zero : ∀ (t : Ty), t.good = true → conf t (zeroV t) = true
  | .unit, _ => rfl
  | .int _, _ => by simp [zeroV, conf]
  | .bool, _ => rfl
  | .str, _ => rfl
  | .arr _ _, _ => by simp [zeroV, conf]
  | .sl _ _, _ => rfl
  | .prod a b, hg => by
      obtain ⟨h1, h2, h3⟩ := Ty.good_prod hg
      exact conf_consN (conf_zero a h1) (conf_zero b h2) (zeroV_node h3 h2)
  | .opq, _ => rfl
  | .ifc, _ => rfl

theorem addr_add (b o j : Nat) : (⟨b, o, none⟩ : Addr).add j = ⟨b, o + j, none⟩ := by
  unfold Addr.add; split <;> simp_all

section
variable {P : Program} {tab : TypeId → Option Ty} {T : TypeId} {t : Ty}

theorem TyOk.size_run (h : TyOk P tab T t) (w : World) : (sizeOf T).run P w = .ok t.size w := by
  obtain ⟨i, hi, hs, _⟩ := h.info
  simp [sizeOf, typeInfo, hi, hs]
theorem TyOk.zero_run (h : TyOk P tab T t) (w : World) : (zeroValue T).run P w = .ok (if t.isAgg then .agg (zeroCells t).toArray else (zeroCells t).getD 0 Go.undef) w := by
  obtain ⟨i, hi, _, _, hz⟩ := h.info
  simp [zeroValue, typeInfo, hi, hz]
theorem TyOk.isAgg_run (h : TyOk P tab T t) (w : World) : (Go.isAgg T).run P w = .ok t.isAgg w := by
  have hd := h.desc
  unfold Go.isAgg
  cases t <;> simp only [TyDesc'] at hd
  case arr => obtain ⟨e, i, h1, _⟩ := hd; simp [run_underlying h1, Ty.isAgg]
  case sl => obtain ⟨e, h1, _⟩ := hd; simp [run_underlying h1, Ty.isAgg]
  case unit => obtain ⟨fs, h1, _⟩ := hd; simp [run_underlying h1, Ty.isAgg]
  case prod => obtain ⟨fs, h1, _⟩ := hd; simp [run_underlying h1, Ty.isAgg]
  case opq => obtain ⟨e, h1⟩ := hd; simp [run_underlying h1, Ty.isAgg]
  case ifc => obtain ⟨e, h1⟩ := hd; simp [run_underlying h1, Ty.isAgg]
  all_goals simp [run_underlying hd, Ty.isAgg]

theorem TyOk.load_run (h : TyOk P tab T t) {w : World} {b o : Nat} {cs : List Value} (hl : cs.length = t.size) (hc : ∀ j u, cs[j]? = some u → w.cell? ⟨b, o + j, none⟩ = some u) :
    (loadVar T ⟨b, o, none⟩).run P w = .ok (if t.isAgg then .agg cs.toArray else cs.getD 0 Go.undef) w := by
  unfold loadVar
  rw [Sem.run_bind, h.isAgg_run]
  simp only [Result.andThen_ok]
  by_cases ha : t.isAgg = true
  · have hl' := run_loadCells_list (P := P) w ⟨b, o, none⟩ cs (fun j u hj => by rw [addr_add]; exact hc j u hj)
    rw [hl] at hl'
    simp [ha, h.size_run, hl']
  · have h1 : t.size = 1 := by cases t <;> simp_all [Ty.isAgg, Ty.size]
    rw [h1] at hl
    obtain ⟨x, rfl⟩ := List.length_eq_one_iff.1 hl
    have := hc 0 x rfl
    simp only [Nat.add_zero] at this
    simp [ha, this]

theorem TyOk.store_run (h : TyOk P tab T t) {w : World} {b o : Nat} {cur : Array Value} {e : TypeId} {x : Value} (hb : w.heap[b]? = some (.cells cur e (0, 0)))
    (hl : x.cells.size = t.size) (hf : o + t.size ≤ cur.size) (h1 : ∀ u ∈ x.cells.toList, u.oneCell' = true) :
    (storeVar T ⟨b, o, none⟩ x).run P w = .ok () (w.setRow b (cur.toList.take o ++ x.cells.toList ++ cur.toList.drop (o + t.size)).toArray) := by
  have hs := run_storeCells_at P b o e x.cells.toList 0 cur w hb (by simpa [hl] using hf) h1
  simp [storeVar, h.size_run, hl, Sem.run_bind, hs]
end

/-- What a path leads to. -/
theorem CR.look {c : Cx} {S : St} {f : Bool} : ∀ (t : Ty) (p : List Nat) (v x : V) (cs : List Value) (o : Nat) (u : Ty), conf t v = true → CR c v cs → t.at p = some (o, u) → (Eng.look f v p).run S = some x →
    conf u x = true ∧ o + u.size ≤ cs.length ∧ CR c x ((cs.drop o).take u.size) := by
  have base : ∀ (t : Ty) (v x : V) (cs : List Value) (o : Nat) (u : Ty), conf t v = true → CR c v cs → t.at [] = some (o, u) → (Eng.look f v []).run S = some x →
      conf u x = true ∧ o + u.size ≤ cs.length ∧ CR c x ((cs.drop o).take u.size) := by
    intro t v x cs o u hc h ha hx
    have ha' : (0, t) = (o, u) := by cases t <;> simpa [Ty.at] using ha
    cases ha'
    have hx' : x = v := by cases v <;> simpa [Eng.look] using hx.symm
    subst hx'
    have hlen := CR.length t x cs hc h
    refine ⟨hc, by omega, ?_⟩
    rw [← hlen]; simpa using h
  intro t
  induction t with
  | prod a b iha ihb =>
    intro p v x cs o u hc h ha hx
    match p with
    | [] => exact base _ v x cs o u hc h ha hx
    | i :: p =>
      cases v <;> try (simp [conf] at hc; done)
      rename_i vs
      cases vs with
      | nil => simp [conf] at hc
      | cons v vs =>
        simp [conf] at hc
        simp only [CR, CRs] at h
        obtain ⟨c1, c2, rfl, h1, h2⟩ := h
        have e1 := CR.length a v c1 hc.1 h1
        cases i with
        | zero =>
          simp [Ty.at] at ha
          have hx' : (Eng.look f v p).run S = some x := by simpa [Eng.look] using hx
          obtain ⟨q1, q2, q3⟩ := iha p v x c1 o u hc.1 h1 ha hx'
          refine ⟨q1, by simp; omega, ?_⟩
          rw [List.drop_append_of_le_length (by omega), List.take_append_of_le_length (by simp; omega)]
          exact q3
        | succ i =>
          simp [Ty.at] at ha
          obtain ⟨o', h3, rfl⟩ := ha
          have hx' : (Eng.look f (.node vs) (i :: p)).run S = some x := by simpa [Eng.look] using hx
          obtain ⟨q1, q2, q3⟩ := ihb (i :: p) (.node vs) x c2 o' u hc.2 (by simpa only [CR] using h2) h3 hx'
          refine ⟨q1, by simp; omega, ?_⟩
          rw [← e1, List.drop_append, List.drop_of_length_le (by omega)]
          simpa using q3
  | arr n k =>
    intro p v x cs o u hc h ha hx
    match p with
    | [] => exact base _ v x cs o u hc h ha hx
    | [i] =>
      cases v <;> try (simp [conf] at hc; done)
      rename_i n' k' l
      simp [conf] at hc
      obtain ⟨rfl, rfl⟩ := hc
      simp [Ty.at] at ha
      obtain ⟨hi, rfl, rfl⟩ := ha
      simp only [Eng.look, run_opt_some, run_ret] at hx
      obtain ⟨y, hy, hx⟩ := hx
      cases hx
      simp only [CR] at h
      have hlen := h.length
      obtain ⟨e, hok, rfl⟩ := h
      refine ⟨by simp [conf], by simp [Ty.size]; omega, ?_⟩
      simp only [CR]
      refine ⟨?_, hok y (List.mem_of_getElem? hy)⟩
      simp only [Ty.size]
      obtain ⟨hlt, hy⟩ := List.getElem?_eq_some_iff.1 hy
      rw [List.drop_eq_getElem_cons (by simpa using hlt)]
      simp [hy]
    | i :: j :: p => simp [Ty.at] at ha
  | _ =>
    intro p v x cs o u hc h ha hx
    match p with
    | [] => exact base _ v x cs o u hc h ha hx
    | i :: p => simp [Ty.at] at ha

/-- What a path leads to, written. -/
theorem CR.putAt {c : Cx} : ∀ (t : Ty) (p : List Nat) (v y v' : V) (cs ms : List Value) (o : Nat) (u : Ty), conf t v = true → CR c v cs → t.at p = some (o, u) → Eng.putAt v p y = some v' →
    conf u y = true → CR c y ms → conf t v' = true ∧ CR c v' (cs.take o ++ ms ++ cs.drop (o + u.size)) := by
  have base : ∀ (t : Ty) (v y v' : V) (cs ms : List Value) (o : Nat) (u : Ty), conf t v = true → CR c v cs → t.at [] = some (o, u) → Eng.putAt v [] y = some v' →
      conf u y = true → CR c y ms → conf t v' = true ∧ CR c v' (cs.take o ++ ms ++ cs.drop (o + u.size)) := by
    intro t v y v' cs ms o u hc h ha hp hy hm
    have ha' : (0, t) = (o, u) := by cases t <;> simpa [Ty.at] using ha
    cases ha'
    have hx' : v' = y := by cases v <;> simpa [Eng.putAt] using hp.symm
    subst hx'
    have hlen := CR.length t v cs hc h
    refine ⟨hy, ?_⟩
    rw [List.drop_of_length_le (by omega)]
    simpa using hm
  intro t
  induction t with
  | prod a b iha ihb =>
    intro p v y v' cs ms o u hc h ha hp hy hm
    match p with
    | [] => exact base _ v y v' cs ms o u hc h ha hp hy hm
    | i :: p =>
      cases v <;> try (simp [conf] at hc; done)
      rename_i vs
      cases vs with
      | nil => simp [conf] at hc
      | cons v vs =>
        simp [conf] at hc
        simp only [CR, CRs] at h
        obtain ⟨c1, c2, rfl, h1, h2⟩ := h
        have e1 := CR.length a v c1 hc.1 h1
        cases i with
        | zero =>
          simp [Ty.at] at ha
          simp [Eng.putAt] at hp
          obtain ⟨v1, hp, rfl⟩ := hp
          obtain ⟨q1, q2⟩ := iha p v y v1 c1 ms o u hc.1 h1 ha hp hy hm
          have hle : o + u.size ≤ c1.length := by
            have := Ty.at_le a p o u ha
            omega
          refine ⟨by simp [conf, q1, hc.2], ?_⟩
          simp only [CR, CRs]
          refine ⟨_, c2, ?_, q2, h2⟩
          rw [List.take_append_of_le_length (by omega), List.drop_append_of_le_length hle]
          simp
        | succ i =>
          simp [Ty.at] at ha
          obtain ⟨o', h3, rfl⟩ := ha
          have hp' : ∃ vs', Eng.putAt (.node vs) (i :: p) y = some (.node vs') ∧ v' = .node (v :: vs') := by
            simp only [Eng.putAt] at hp ⊢
            simp only [List.getElem?_cons_succ] at hp
            cases hvs : vs[i]? with
            | none => simp [hvs] at hp
            | some z =>
              simp only [hvs, Option.map_eq_some_iff] at hp
              obtain ⟨z', hz, rfl⟩ := hp
              exact ⟨vs.set i z', by simp [hz], by simp⟩
          obtain ⟨vs', hp', rfl⟩ := hp'
          obtain ⟨q1, q2⟩ := ihb (i :: p) (.node vs) y (.node vs') c2 ms o' u hc.2 (by simpa only [CR] using h2) h3 hp' hy hm
          refine ⟨by simp [conf, q1, hc.1], ?_⟩
          simp only [CR, CRs]
          refine ⟨c1, _, ?_, h1, by simpa only [CR] using q2⟩
          rw [← e1, List.take_append, List.drop_append]
          simp [Nat.add_assoc, List.take_of_length_le, List.drop_of_length_le]
  | arr n k =>
    intro p v y v' cs ms o u hc h ha hp hy hm
    match p with
    | [] => exact base _ v y v' cs ms o u hc h ha hp hy hm
    | [i] =>
      cases v <;> try (simp [conf] at hc; done)
      rename_i n' k' l
      simp [conf] at hc
      obtain ⟨rfl, rfl⟩ := hc
      simp [Ty.at] at ha
      obtain ⟨hi, rfl, rfl⟩ := ha
      cases y <;> try (simp [conf] at hy; done)
      rename_i k2 z
      simp [conf] at hy
      subst hy
      simp [Eng.putAt] at hp
      subst hp
      simp only [CR] at h hm ⊢
      have hlen := h.length
      obtain ⟨e, hok, rfl⟩ := h
      obtain ⟨rfl, hz⟩ := hm
      refine ⟨by simp [conf], by simpa using e, fun x hx => ?_, ?_⟩
      · rcases List.mem_or_eq_of_mem_set hx with h' | h'
        · exact hok x h'
        · exact h' ▸ hz
      · simp only [Ty.size]
        rw [List.map_set, List.set_eq_take_append_cons_drop, if_pos (by simp; omega)]
        simp
    | i :: j :: p => simp [Ty.at] at ha
  | _ =>
    intro p v y v' cs ms o u hc h ha hp hy hm
    match p with
    | [] => exact base _ v y v' cs ms o u hc h ha hp hy hm
    | i :: p => simp [Ty.at] at ha

end Go.Eng
