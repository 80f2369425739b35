/- The engine, part Ta: a program's types, checked; contracts in lists. -/
import Derived.Test.YtnpeafceolodiaaGreatEngZ
namespace Go.Eng
open Go.RowKit

def zval (t : Ty) : Value := if t.isAgg then .agg (zeroCells t).toArray else (zeroCells t).getD 0 Go.undef

def isStruct : Ty → Bool
  | .unit | .prod _ _ => true
  | _ => false

def fldsB (tab : TypeId → Option Ty) : List Field → Ty → Nat → Bool
  | [], .unit, _ => true
  | f :: fs, .prod a b, off => Nat.beq f.offset off && (f.name != "_") && decide (tab f.type = some a) && fldsB tab fs b (off + a.size)
  | _, _, _ => false

def descB (P : Program) (tab : TypeId → Option Ty) (T : TypeId) (t : Ty) : Bool :=
  match t with
  | .int k => match P.underlying T with | some (.int k') => decide (k' = k) | _ => false
  | .bool => match P.underlying T with | some .bool => true | _ => false
  | .str => match P.underlying T with | some .string => true | _ => false
  | .arr n k => match P.underlying T with
    | some (.array m e) => Nat.beq m n && (match P.underlying e with | some (.int k') => decide (k' = k) | _ => false) && (match P.info? e with | some i => Nat.beq i.size 1 | none => false)
    | _ => false
  | .sl _ u => match P.underlying T with | some (.slice e) => decide (tab e = some u) | _ => false
  | .opq => match P.underlying T with | some (.pointer _) => true | _ => false
  | .ifc => match P.underlying T with | some (.interface _) => true | _ => false
  | t => match P.underlying T with | some (.struct fs) => !P.stoodInHeld T && fldsB tab fs.toList t 0 | _ => false

theorem fldsB_ok {tab : TypeId → Option Ty} : ∀ {fs : List Field} {t : Ty} {off : Nat}, fldsB tab fs t off = true → Flds tab fs t off
  | [], .unit, _, _ => trivial
  | f :: fs, .prod a b, off, h => by
      simp only [fldsB, Bool.and_eq_true, decide_eq_true_eq, bne_iff_ne] at h
      exact ⟨Nat.eq_of_beq_eq_true h.1.1.1, h.1.1.2, h.1.2, fldsB_ok h.2⟩
  | [], .prod _ _, _, h => by simp [fldsB] at h
  | [], .int _, _, h => by simp [fldsB] at h
  | [], .bool, _, h => by simp [fldsB] at h
  | [], .str, _, h => by simp [fldsB] at h
  | [], .arr _ _, _, h => by simp [fldsB] at h
  | [], .sl _ _, _, h => by simp [fldsB] at h
  | [], .opq, _, h => by simp [fldsB] at h
  | [], .ifc, _, h => by simp [fldsB] at h
  | _ :: _, .unit, _, h => by simp [fldsB] at h
  | _ :: _, .int _, _, h => by simp [fldsB] at h
  | _ :: _, .bool, _, h => by simp [fldsB] at h
  | _ :: _, .str, _, h => by simp [fldsB] at h
  | _ :: _, .arr _ _, _, h => by simp [fldsB] at h
  | _ :: _, .sl _ _, _, h => by simp [fldsB] at h
  | _ :: _, .opq, _, h => by simp [fldsB] at h
  | _ :: _, .ifc, _, h => by simp [fldsB] at h

theorem descB_ok {P : Program} {tab : TypeId → Option Ty} {T : TypeId} {t : Ty} (h : descB P tab T t = true) : TyDesc' P tab T t := by
  cases t <;> simp only [descB] at h <;> simp only [TyDesc']
  case int k => split at h <;> simp at h; rename_i k' e; rw [e, h]
  case bool => split at h <;> simp at h; assumption
  case str => split at h <;> simp at h; assumption
  case arr n k =>
    split at h <;> try (simp at h; done)
    rename_i m e hu
    simp only [Bool.and_eq_true] at h
    obtain ⟨⟨h1, h2⟩, h3⟩ := h
    have h1 := Nat.eq_of_beq_eq_true h1
    subst h1
    split at h2 <;> simp at h2
    rename_i k' hk
    subst h2
    split at h3 <;> try (simp at h3; done)
    rename_i i hi
    exact ⟨e, i, hu, hk, hi, Nat.eq_of_beq_eq_true h3⟩
  case sl md u => split at h <;> simp at h; rename_i e hu; exact ⟨e, hu, h⟩
  case opq => split at h <;> simp at h; rename_i e hu; exact ⟨e, hu⟩
  case ifc => split at h <;> simp at h; rename_i e hu; exact ⟨e, hu⟩
  case unit =>
    split at h <;> try (simp at h; done)
    rename_i fs hu
    simp only [Bool.and_eq_true, Bool.not_eq_true'] at h
    exact ⟨fs, hu, h.1, fldsB_ok h.2⟩
  case prod a b =>
    split at h <;> try (simp at h; done)
    rename_i fs hu
    simp only [Bool.and_eq_true, Bool.not_eq_true'] at h
    exact ⟨fs, hu, h.1, fldsB_ok h.2⟩

theorem tyOk_of {P : Program} {tab : TypeId → Option Ty} {T : TypeId} {t : Ty} {B : Nat} (hz : (P.info? T).map (fun i => (i.zero, i.size, i.bytes)) = some (some (zval t), t.size, B)) (hb : Nat.ble B 1024 = true) (hg : t.good = true)
    (he : (!t.flat || !P.eqGuardType P.depth T) = true) (hd : descB P tab T t = true) : TyOk P tab T t := by
  refine ⟨?_, hg, fun hf => ?_, descB_ok hd⟩
  · cases hi : P.info? T with
    | none => simp [hi] at hz
    | some i =>
      simp [hi] at hz
      exact ⟨i, rfl, hz.2.1, by rw [hz.2.2]; exact Nat.le_of_ble_eq_true hb, hz.1⟩
  · simpa [hf] using he

def AllTy (P : Program) (tab : TypeId → Option Ty) : List (Nat × Ty) → Prop
  | [] => True
  | q :: l => TyOk P tab q.1 q.2 ∧ AllTy P tab l

def lookT (l : List (Nat × Ty)) (T : Nat) : Option Ty := match l with
  | [] => none
  | (a, t) :: l => bif Nat.beq a T then some t else lookT l T
def lookC (l : List (Nat × Callee)) (T : Nat) : Option Callee := match l with
  | [] => none
  | (a, t) :: l => bif Nat.beq a T then some t else lookC l T

theorem allTy_look {P : Program} {tab : TypeId → Option Ty} : ∀ {l : List (Nat × Ty)} {T : Nat} {t : Ty}, AllTy P tab l → lookT l T = some t → TyOk P tab T t
  | [], _, _, _, h => by simp [lookT] at h
  | (a, u) :: l, T, t, ha, h => by
      simp only [lookT] at h
      cases hb : Nat.beq a T with
      | true =>
        simp only [hb, cond_true, Option.some.injEq] at h
        have := Nat.eq_of_beq_eq_true hb
        subst this h
        exact ha.1
      | false =>
        simp only [hb, cond_false] at h
        exact allTy_look ha.2 h

def deepB : List (Nat × Ty) → Bool
  | [] => true
  | q :: l => Nat.blt q.2.deep 9000 && deepB l
theorem deepB_look : ∀ {l : List (Nat × Ty)} {T : Nat} {t : Ty}, deepB l = true → lookT l T = some t → t.deep < 9000
  | [], _, _, _, h => by simp [lookT] at h
  | (a, u) :: l, T, t, ha, h => by
      simp only [deepB, Bool.and_eq_true] at ha
      simp only [lookT] at h
      cases hb : Nat.beq a T with
      | true =>
        simp only [hb, cond_true, Option.some.injEq] at h
        subst h
        simpa using ha.1
      | false =>
        simp only [hb, cond_false] at h
        exact deepB_look ha.2 h

def AllCt (P : Program) : List (Nat × Callee) → Prop
  | [] => True
  | q :: l => (Contract P q.1 q.2 ∧ goodA q.2.ps = true ∧ q.2.ps.length ≤ 500) ∧ AllCt P l
theorem allCt_look {P : Program} : ∀ {l : List (Nat × Callee)} {f : Nat} {q : Callee}, AllCt P l → lookC l f = some q → Contract P f q ∧ goodA q.ps = true ∧ q.ps.length ≤ 500
  | [], _, _, _, h => by simp [lookC] at h
  | (a, u) :: l, T, t, ha, h => by
      simp only [lookC] at h
      cases hb : Nat.beq a T with
      | true =>
        simp only [hb, cond_true, Option.some.injEq] at h
        have := Nat.eq_of_beq_eq_true hb
        subst this h
        exact ha.1
      | false =>
        simp only [hb, cond_false] at h
        exact allCt_look ha.2 h

/-- A contract from the contracts of what is called. -/
theorem ct_of {P : Program} {tabL : List (Nat × Ty)} {cs : List (Nat × Callee)} {sl : Nat → List Slot} (ht : AllTy P (lookT tabL) tabL) (hdp : deepB tabL = true) (hc : AllCt P cs) (hm : P.follows .mixedOrders = true)
    {f : FuncId} {fn : Func} {q : Callee} (fuel : Nat) (hf : P.funcs[f]? = some fn) (hn : (fn.name == "runtime.NumGoroutine") = false)
    (hrun : ∀ x, execFn { tab := lookT tabL, call := lookC cs, nt := 0, pars := [], slots := sl } fuel fn q.ps q.rs x some = q.F x) : Contract P f q :=
  fn_sound (E := { tab := lookT tabL, call := lookC cs, nt := 0, pars := [], slots := sl })
    ⟨fun T t h => allTy_look ht h, fun T t h => deepB_look hdp h, call_sound fun f q h => allCt_look hc h⟩ hm hf hn fun x z hz => ⟨fuel, (hrun x).trans hz⟩

end Go.Eng
