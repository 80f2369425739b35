/- The engine, part C: how the relation goes on from step to step. -/
import Derived.Test.YtnpeafceolodiaaGreatEngB
namespace Go.Eng
open Go.RowKit

structure Step (Mu : Nat → Prop) (c c' : Cx) : Prop where
  later : Later c c'
  size : c.w.heap.size ≤ c'.w.heap.size
  newR : ∀ b o, c'.R b o → c.R b o ∨ Mu b ∧ b < c'.w.heap.size
  kept : ∀ b, b < c.w.heap.size → ¬ Mu b → c'.w.heap[b]? = c.w.heap[b]?
  os : c'.w.os = c.w.os
  tape : c'.w.tape = c.w.tape
  output : c'.w.output = c.w.output

theorem Step.refl {Mu : Nat → Prop} (c : Cx) : Step Mu c c := ⟨Later.refl c, Nat.le_refl _, fun _ _ h => .inl h, fun _ _ _ => rfl, rfl, rfl, rfl⟩
theorem Step.trans {Mu : Nat → Prop} {a b c : Cx} (h : Step Mu a b) (k : Step Mu b c) : Step Mu a c :=
  ⟨h.later.trans k.later, Nat.le_trans h.size k.size, fun b o hr => (k.newR b o hr).elim (fun hr => (h.newR b o hr).imp id fun q => ⟨q.1, Nat.lt_of_lt_of_le q.2 k.size⟩) .inr, fun i hi hm => (k.kept i (Nat.lt_of_lt_of_le hi h.size) hm).trans (h.kept i hi hm),
   k.os.trans h.os, k.tape.trans h.tape, k.output.trans h.output⟩

theorem Loc.beq_eq : ∀ a b : Loc, Loc.beq a b = decide (a = b) := by
  intro a b
  cases a <;> cases b <;> simp [Loc.beq] <;> (
    rename_i x y; by_cases h : x = y
    · simp [h]
    · simp only [h, decide_false, Bool.eq_false_iff]; exact fun e => h (Nat.eq_of_beq_eq_true e))
theorem St.set_same (S : St) (l : Loc) (v : V) : S.set l v l = v := by simp [St.set, Loc.beq_eq]
theorem St.set_other (S : St) (l l' : Loc) (v : V) (h : l' ≠ l) : S.set l v l' = S l' := by simp [St.set, Loc.beq_eq, h]
theorem St.set_id (S : St) (l : Loc) (v : V) (h : S l = v) : S.set l v = S := by
  funext l'
  by_cases e : l' = l
  · subst e; rw [St.set_same, h]
  · rw [St.set_other _ _ _ _ e]

theorem TR_undef (c : Cx) (x : Value) : TR c .undef x := trivial

theorem ObjR.move {c c' : Cx} {v : V} {r : Ref} (h : ObjR c v r) (hl : Later c c') (hb : ∀ b, r.blk = some b → c'.w.heap[b]? = c.w.heap[b]?) : ObjR c' v r := by
  cases v <;> cases r <;> try exact h
  case obj.var t v b u =>
    obtain ⟨h1, hg, h2, cells, e, h3, h4⟩ := h
    exact ⟨h1, hg, h2, cells, e, by rw [hb b rfl]; exact h3, CR.later hl _ _ h4⟩
  case arrc.arr f t l b u len cap =>
    cases b with
    | none => exact h
    | some b =>
      obtain ⟨h1, hg, hz, h2, h3, h4, h5, cells, e, h6, h7, h8⟩ := h
      exact ⟨h1, hg, hz, h2, h3, h4, fun hf => by rw [hl.base]; exact h5 hf, cells, e, by rw [hb b rfl]; exact h6, h7, h8.mono (Rep.later (hl.moref f) (hl.memf f) _)⟩
  case frzc.frz f t l b u len cap =>
    obtain ⟨h1, hg, hz, h2, h4⟩ := h
    exact ⟨h1, hg, hz, h2, fun x hx => Rep.later (hl.moref f) (hl.memf f) _ _ _ (h4 x hx)⟩
  case iter.iter s pos b =>
    obtain ⟨h1, h2⟩ := h
    exact ⟨h1, by rw [hb b rfl]; exact h2⟩

theorem ObjR.blk_lt {c : Cx} {v : V} {r : Ref} {b : Nat} (ho : ObjR c v r) (hb : r.blk = some b) : b < c.w.heap.size := by
  cases r with
  | none => simp [Ref.blk] at hb
  | dead => simp [Ref.blk] at hb
  | frz => simp [Ref.blk] at hb
  | var b' t =>
    simp [Ref.blk] at hb; subst hb
    cases v <;> try exact ho.elim
    obtain ⟨_, _, _, cells, e, h3, _⟩ := ho
    exact (Array.getElem?_eq_some_iff.1 h3).1
  | arr b' t len cap =>
    simp [Ref.blk] at hb; subst hb
    cases v <;> try exact ho.elim
    obtain ⟨_, _, _, _, _, _, _, cells, e, h6, _⟩ := ho
    exact (Array.getElem?_eq_some_iff.1 h6).1
  | iter b' =>
    simp [Ref.blk] at hb; subst hb
    cases v <;> try exact ho.elim
    exact (Array.getElem?_eq_some_iff.1 ho.2).1

def Cx.setRef (c : Cx) (m : Nat) (r : Ref) : Cx := { c with ρ := fun n => if n = m then r else c.ρ n }
def Cx.setW (c : Cx) (w : World) : Cx := { c with w := w }
def Cx.addR (c : Cx) (p : Nat → Nat → Prop) : Cx := { c with R := fun b o => c.R b o ∨ p b o }
@[simp] theorem Cx.setRef_same (c : Cx) (m : Nat) (r : Ref) : (c.setRef m r).ρ m = r := by simp [Cx.setRef]
theorem Cx.setRef_other (c : Cx) (m n : Nat) (r : Ref) (h : n ≠ m) : (c.setRef m r).ρ n = c.ρ n := by simp [Cx.setRef, h]

theorem mem_alloc (w : World) (o : Obj) (b i : Nat) (u : Value) (h : w.cell? ⟨b, i, none⟩ = some u) : (w.alloc o).cell? ⟨b, i, none⟩ = some u := by
  rw [World.cell?_alloc_lt _ _ _ (World.block_lt_of_cell? _ _ h)]; exact h

theorem Later.alloc (c : Cx) (o : Obj) : Later c (c.setW (c.w.alloc o)) :=
  ⟨rfl, fun _ _ => .inr (.inl rfl), fun _ _ h => h, fun _ _ _ _ h => mem_alloc _ _ _ _ _ h⟩

theorem Later.setRef_new (c : Cx) {m : Nat} (r : Ref) (h : c.ρ m = .none) : Later c (c.setRef m r) :=
  ⟨rfl, fun n hn => by
    by_cases e : n = m
    · subst e; exact absurd h hn
    · exact .inr (.inl (by simp [Cx.setRef, e])), fun _ _ h => h, fun _ _ _ _ h => h⟩

section
variable {Mu : Nat → Prop} {nt : Nat} {S : St} {c : Cx} {a : Act}

theorem ObjsR.congr {S' : St} (h : ObjsR Mu S c) (hs : ∀ m, S' (.obj m) = S (.obj m)) : ObjsR Mu S' c :=
  ⟨fun m => by rw [hs]; exact h.obj m, h.apart, h.free, h.new, h.base, h.rlt⟩

theorem Rel.setTmp (h : Rel Mu nt S c a) {d : Nat} (hd : d < nt) {v : V} {x : Value} (hv : TR c v x) : Rel Mu nt (S.set (.tmp d) v) c (a.put (some d) x) where
  size := by simp [Act.put, h.size]
  defers := h.defers
  tmp := fun t => by
    by_cases e : t = d
    · subst e
      rw [St.set_same]
      have : (a.put (some t) x).tmps.getD t undef = x := by simp [Act.put, h.size, hd]
      rw [this]; exact hv
    · rw [St.set_other _ _ _ _ (by simpa using e)]
      have : (a.put (some d) x).tmps.getD t undef = a.tmps.getD t undef := by
        simp [Act.put, Array.getElem?_setIfInBounds_ne (fun e' => e e'.symm)]
      rw [this]; exact h.tmp t
  objs := h.objs.congr fun m => St.set_other _ _ _ _ (by simp)

/-- The context goes on, and nothing that the state names has turned. -/
theorem ObjsR.move (h : ObjsR Mu S c) {c' : Cx} (hl : Later c c') (hρ : c'.ρ = c.ρ) (hb : ∀ m b, (c.ρ m).blk = some b → c'.w.heap[b]? = c.w.heap[b]?)
    (hfree : ∀ m b, (c.ρ m).blk = some b → ∀ o, ¬ c'.R b o) (hs : c.w.heap.size ≤ c'.w.heap.size) (hlt : ∀ b o, c'.R b o → b < c'.w.heap.size) : ObjsR Mu S c' where
  obj := fun m => by rw [hρ]; exact (h.obj m).move hl (hb m)
  apart := by rw [hρ]; exact h.apart
  free := fun m b hm => by rw [hρ] at hm; exact ⟨(h.free m b hm).1, hfree m b hm⟩
  new := fun m b t hm hp => by rw [hρ] at hm; rw [hl.base]; exact h.new m b t hm hp
  base := fun b hb => by rw [hl.base]; exact h.base b (Nat.le_trans hs hb)
  rlt := hlt

/-- The objects are held anew, the temporaries follow. -/
theorem Rel.objs' (h : Rel Mu nt S c a) {S' : St} {c' : Cx} (hl : Later c c') (ht : ∀ t, S' (.tmp t) = S (.tmp t)) (ho : ObjsR Mu S' c') : Rel Mu nt S' c' a :=
  ⟨h.size, h.defers, fun t => by rw [ht]; exact (h.tmp t).later hl, ho⟩

theorem ObjsR.blk_lt (h : ObjsR Mu S c) {m b : Nat} (hb : (c.ρ m).blk = some b) : b < c.w.heap.size := (h.obj m).blk_lt hb

theorem ObjsR.ref_none (h : ObjsR Mu S c) {m : Nat} (hu : S (.obj m) = .undef) : c.ρ m = .none := by
  have ho := h.obj m
  rw [hu] at ho
  cases hr : c.ρ m <;> rw [hr] at ho <;> first | rfl | exact ho.elim

/-- A new block, and a new name for it. -/
theorem ObjsR.newObj (h : ObjsR Mu S c) (hMu : ∀ b, c.w.heap.size ≤ b → Mu b) {m : Nat} (hu : S (.obj m) = .undef) (o : Obj) {v : V} {r : Ref} (hr : r.blk = some c.w.heap.size)
    (hv : ∀ c', Later c c' → c'.w = c.w.alloc o → c'.N = c.N → ObjR c' v r) :
    ObjsR Mu (S.set (.obj m) v) ((c.setRef m r).setW (c.w.alloc o)) ∧ Later c ((c.setRef m r).setW (c.w.alloc o)) := by
  have hn := h.ref_none hu
  have hl : Later c ((c.setRef m r).setW (c.w.alloc o)) := (Later.setRef_new c r hn).trans (Later.alloc (c.setRef m r) o)
  refine ⟨?_, hl⟩
  have hold : ∀ n, n ≠ m → ((c.setRef m r).setW (c.w.alloc o)).ρ n = c.ρ n := fun n hn => by simp [Cx.setRef, Cx.setW, hn]
  have hnew : ((c.setRef m r).setW (c.w.alloc o)).ρ m = r := by simp [Cx.setRef, Cx.setW]
  exact {
    obj := fun n => by
      by_cases e : n = m
      · subst e; rw [St.set_same, hnew]; exact hv _ hl rfl rfl
      · rw [St.set_other _ _ _ _ (by simpa using e), hold n e]
        refine (h.obj n).move hl fun b hb => ?_
        exact Below.heap_alloc _ _ _ (h.blk_lt hb)
    apart := fun n n' b h1 h2 => by
      by_cases e : n = m <;> by_cases e' : n' = m
      · rw [e, e']
      · subst e; rw [hnew, hr] at h1; rw [hold n' e'] at h2
        have := h.blk_lt h2; cases h1; omega
      · subst e'; rw [hnew, hr] at h2; rw [hold n e] at h1
        have := h.blk_lt h1; cases h2; omega
      · rw [hold n e] at h1; rw [hold n' e'] at h2; exact h.apart n n' b h1 h2
    free := fun n b hb => by
      by_cases e : n = m
      · subst e; rw [hnew, hr] at hb; cases hb
        exact ⟨hMu _ (Nat.le_refl _), fun o hR' => by have := h.rlt _ _ hR'; omega⟩
      · rw [hold n e] at hb; exact h.free n b hb
    new := fun n b t hn hp => by
      by_cases e : n = m
      · subst e; rw [hnew] at hn; subst hn; simp [Ref.blk] at hr; subst hr; exact h.base _ (Nat.le_refl _)
      · rw [hold n e] at hn; exact h.new n b t hn hp
    base := fun b hb => h.base b (by simp [Cx.setRef, Cx.setW] at hb; exact Nat.le_of_succ_le hb)
    rlt := fun b o hr' => by simp [Cx.setRef, Cx.setW]; exact Nat.lt_succ_of_lt (h.rlt b o hr') }

theorem Step.newObj {m : Nat} {r : Ref} {o : Obj} (hl : Later c ((c.setRef m r).setW (c.w.alloc o))) : Step Mu c ((c.setRef m r).setW (c.w.alloc o)) :=
  ⟨hl, by simp [Cx.setRef, Cx.setW], fun _ _ h => .inl h, fun b hb _ => Below.heap_alloc _ _ _ hb, rfl, rfl, rfl⟩

end
end Go.Eng
