/- The engine, part R: whole bodies. -/
import Derived.Test.YtnpeafceolodiaaGreatEngQF
import Derived.LoopN
namespace Go.Eng
open Go.RowKit

theorem runK_some {α ω : Type} {S : St} {z : ω} : ∀ {r : Rd α} {rs : List Loc} {K : α → List Loc → Option ω}, r.runK S rs K = some z → ∃ a rs', r.run S = some a ∧ K a rs' = some z
  | .ret a, rs, K, h => ⟨a, rs, rfl, h⟩
  | .fail, rs, K, h => by simp [Rd.runK] at h
  | .get l k, rs, K, h => runK_some (r := k (S l)) h
  | .shp m k, rs, K, h => runK_some (r := k (shapeV (S (.obj m)))) h
  | .opt o k, rs, K, h => by
      cases o with
      | none => simp [Rd.runK] at h
      | some x => exact runK_some (r := k x) h
  | .alt o n k, rs, K, h => by
      cases o with
      | none => exact runK_some (r := n) h
      | some x => exact runK_some (r := k x) h

structure Goes (Mu : Nat → Prop) (pars : List Nat) (c c' : Cx) : Prop where
  new : c'.N = c.N
  more : ∀ b o, c.R b o → c'.R b o
  mem : ∀ b o u, c.R b o → c.w.cell? ⟨b, o, none⟩ = some u → c'.w.cell? ⟨b, o, none⟩ = some u
  size : c.w.heap.size ≤ c'.w.heap.size
  newR : ∀ b o, c'.R b o → c.R b o ∨ Mu b ∧ b < c'.w.heap.size
  kept : ∀ b, b < c.w.heap.size → ¬ Mu b → c'.w.heap[b]? = c.w.heap[b]?
  os : c'.w.os = c.w.os
  tape : c'.w.tape = c.w.tape
  output : c'.w.output = c.w.output
  par : ∀ m ∈ pars, c.ρ m ≠ .none → c'.ρ m = .dead ∨ c'.ρ m = c.ρ m ∨ Froze (c.ρ m) (c'.ρ m)

section
variable {P : Program} {E : Env} {Mu : Nat → Prop} {nt : Nat} {S : St} {c c' : Cx} {a : Act} {pars : List Nat}

theorem Goes.refl (c : Cx) : Goes Mu pars c c := ⟨rfl, fun _ _ h => h, fun _ _ _ _ h => h, Nat.le_refl _, fun _ _ h => .inl h, fun _ _ _ => rfl, rfl, rfl, rfl, fun _ _ _ => .inr (.inl rfl)⟩
theorem Step.goes (h : Step Mu c c') : Goes Mu pars c c' := ⟨h.later.base, h.later.more, h.later.mem, h.size, h.newR, h.kept, h.os, h.tape, h.output, fun m _ hn => h.later.ref m hn⟩
theorem Goes.trans {x y z : Cx} (h : Goes Mu pars x y) (k : Goes Mu pars y z) : Goes Mu pars x z where
  new := k.new.trans h.new
  more := fun b o hr => k.more _ _ (h.more _ _ hr)
  mem := fun b o u hr hc => k.mem _ _ _ (h.more _ _ hr) (h.mem _ _ _ hr hc)
  size := Nat.le_trans h.size k.size
  newR := fun b o hr => (k.newR b o hr).elim (fun hr => (h.newR b o hr).imp id fun q => ⟨q.1, Nat.lt_of_lt_of_le q.2 k.size⟩) .inr
  kept := fun i hi hm => (k.kept i (Nat.lt_of_lt_of_le hi h.size) hm).trans (h.kept i hi hm)
  os := k.os.trans h.os
  tape := k.tape.trans h.tape
  output := k.output.trans h.output
  par := fun m hm hn => by
    rcases h.par m hm hn with h1 | h1 | h1
    · rcases k.par m hm (by simp [h1]) with h2 | h2 | ⟨_, _, _, _, h2, _⟩
      · exact .inl h2
      · exact .inl (h2.trans h1)
      · rw [h1] at h2; cases h2
    · rcases k.par m hm (by rw [h1]; exact hn) with h2 | h2 | h2
      · exact .inl h2
      · exact .inr (.inl (h2.trans h1))
      · exact .inr (.inr (h1 ▸ h2))
    · obtain ⟨b', t', n', c', h3, h4⟩ := h1
      rcases k.par m hm (by simp [h4]) with h2 | h2 | ⟨_, _, _, _, h2, _⟩
      · exact .inl h2
      · exact .inr (.inr ⟨b', t', n', c', h3, h2.trans h4⟩)
      · rw [h4] at h2; cases h2

theorem getElem_nodup {α : Type} {l : List α} (h : l.Nodup) {i j : Nat} {x : α} (hi : l[i]? = some x) (hj : l[j]? = some x) : i = j := by
  obtain ⟨h1, h2⟩ := List.getElem?_eq_some_iff.1 hi
  obtain ⟨h3, h4⟩ := List.getElem?_eq_some_iff.1 hj
  exact (List.getElem_inj h).1 (h2.trans h4.symm)

theorem filterMap_nodup_get {α β : Type} {f : α → Option β} : ∀ {l : List α}, (l.filterMap f).Nodup → ∀ {i j : Nat} {x y : α} {b : β}, l[i]? = some x → l[j]? = some y → f x = some b → f y = some b → i = j
  | [], _, i, j, x, y, b, hi, _, _, _ => by simp at hi
  | z :: l, h, 0, 0, x, y, b, hi, hj, hx, hy => rfl
  | z :: l, h, 0, j + 1, x, y, b, hi, hj, hx, hy => by
      simp at hi hj; subst hi
      rw [List.filterMap_cons_some hx] at h
      exact ((List.nodup_cons.1 h).1 (List.mem_filterMap.2 ⟨y, List.mem_of_getElem? hj, hy⟩)).elim
  | z :: l, h, i + 1, 0, x, y, b, hi, hj, hx, hy => by
      simp at hi hj; subst hj
      rw [List.filterMap_cons_some hy] at h
      exact ((List.nodup_cons.1 h).1 (List.mem_filterMap.2 ⟨x, List.mem_of_getElem? hi, hx⟩)).elim
  | z :: l, h, i + 1, j + 1, x, y, b, hi, hj, hx, hy => by
      have h' : (l.filterMap f).Nodup := by
        cases hz : f z with
        | none => rwa [List.filterMap_cons_none hz] at h
        | some w => rw [List.filterMap_cons_some hz] at h; exact (List.nodup_cons.1 h).2
      have := filterMap_nodup_get h' (i := i) (j := j) (by simpa using hi) (by simpa using hj) hx hy
      omega

theorem ownBlocks_nodup (h : ObjsR Mu S c) : ∀ {l : List Nat}, l.Nodup → (l.filterMap fun m => (c.ρ m).blk).Nodup
  | [], _ => List.nodup_nil
  | m :: l, hn => by
      obtain ⟨h1, h2⟩ := List.nodup_cons.1 hn
      cases hb : (c.ρ m).blk with
      | none => rw [List.filterMap_cons_none (f := fun m => (c.ρ m).blk) hb]; exact ownBlocks_nodup h h2
      | some b =>
        rw [List.filterMap_cons_some (f := fun m => (c.ρ m).blk) hb]
        refine List.nodup_cons.2 ⟨fun hm => ?_, ownBlocks_nodup h h2⟩
        obtain ⟨m', h3, h4⟩ := List.mem_filterMap.1 hm
        rw [h.apart m m' b hb h4] at h1
        exact h1 h3

/-- A block of what is under a new name. -/
theorem Refs.blk {own : List Nat} {refs : List Ref} (h : Refs c own refs) {i : Nat} {r : Ref} {b : Nat} (hr : refs[i]? = some r) (hb : r.blk = some b) : ∃ m ∈ own, (c.ρ m).blk = some b := by
  have : b ∈ refs.filterMap Ref.blk := List.mem_filterMap.2 ⟨r, List.mem_of_getElem? hr, hb⟩
  rw [h.1] at this
  obtain ⟨m, h1, h2⟩ := List.mem_filterMap.1 this
  exact ⟨m, h1, h2⟩

/-- What names stand for, some kept, some new. -/
def headRef (c : Cx) (keep : List Nat) (n : Nat) (refs : List Ref) (m : Nat) : Ref := if m ∈ keep then c.ρ m else if n ≤ m ∧ m < n + refs.length then refs.getD (m - n) .none else .none

theorem headRef_new {keep : List Nat} {n : Nat} {refs : List Ref} (hk : ∀ m ∈ keep, ¬ (n ≤ m ∧ m < n + refs.length)) {i : Nat} {r : Ref} (hr : refs[i]? = some r) : headRef c keep n refs (n + i) = r := by
  have hi := (List.getElem?_eq_some_iff.1 hr).1
  unfold headRef
  rw [if_neg (fun hh => hk _ hh ⟨by omega, by omega⟩), if_pos ⟨by omega, by omega⟩]
  simp [hr]

/-- Objects under new names. -/
theorem head_objs (h : ObjsR Mu S c) {keep own : List Nat} {n : Nat} {refs : List Ref} (hrf : Refs c own refs) (hnd : (keep ++ own).Nodup) (hk : ∀ m ∈ keep, ¬ (n ≤ m ∧ m < n + refs.length))
    {c' : Cx} (hρ : c'.ρ = headRef c keep n refs) (hw : c'.w = c.w) (hR : c'.R = c.R) (hN : c'.N = c.N) {S' : St} (hin : ∀ m, (m ∈ keep ∨ inNew n refs.length m) → ObjR c' (S' (.obj m)) (c'.ρ m)) (hout : ∀ m, ¬ (m ∈ keep ∨ inNew n refs.length m) → S' (.obj m) = .undef) :
    ObjsR Mu S' c' := by
  have hdis := List.nodup_append.1 hnd
  -- of a block: where it comes from
  have cases' : ∀ m b, (c'.ρ m).blk = some b → (m ∈ keep ∧ (c.ρ m).blk = some b) ∨ (∃ i r, m = n + i ∧ m ∉ keep ∧ refs[i]? = some r ∧ r.blk = some b ∧ c'.ρ m = r ∧ ∃ k ∈ own, (c.ρ k).blk = some b) := by
    intro m b hb
    rw [hρ] at hb
    by_cases e : m ∈ keep
    · left
      simp only [headRef, if_pos e] at hb
      exact ⟨e, hb⟩
    · by_cases e2 : n ≤ m ∧ m < n + refs.length
      · right
        have hlt : m - n < refs.length := by omega
        have hr : refs[m - n]? = some refs[m - n] := by simp [hlt]
        have hm : headRef c keep n refs m = refs[m - n] := by
          have := headRef_new (c := c) hk hr
          rwa [show n + (m - n) = m by omega] at this
        rw [hm] at hb
        obtain ⟨k, hk1, hk2⟩ := hrf.blk hr hb
        exact ⟨m - n, _, by omega, e, hr, hb, by rw [hρ, hm], k, hk1, hk2⟩
      · simp only [headRef, if_neg e, if_neg e2] at hb
        simp [Ref.blk] at hb
  exact {
    obj := fun m => by
      by_cases hm : m ∈ keep ∨ inNew n refs.length m
      · exact hin m hm
      · rw [hout m hm]
        have : c'.ρ m = .none := by
          rw [hρ]
          unfold headRef
          rw [if_neg (fun e => hm (.inl e)), if_neg (fun (e : n ≤ m ∧ m < n + refs.length) => hm (.inr e))]
        rw [this]; trivial
    apart := fun m m' b h1 h2 => by
      rcases cases' m b h1 with ⟨k1, b1⟩ | ⟨i, r, e1, n1, r1, b1, _, k, ko, kb⟩ <;> rcases cases' m' b h2 with ⟨k2, b2⟩ | ⟨j, r', e2, n2, r2, b2, _, k', ko', kb'⟩
      · exact h.apart m m' b b1 b2
      · have := h.apart m k' b b1 kb'
        subst this
        exact (hdis.2.2 m k1 m ko' rfl).elim
      · have := h.apart m' k b b2 kb
        subst this
        exact (hdis.2.2 m' k2 m' ko rfl).elim
      · have hnn : (refs.filterMap Ref.blk).Nodup := by rw [hrf.1]; exact ownBlocks_nodup h hdis.2.1
        have := filterMap_nodup_get hnn r1 r2 b1 b2
        omega
    free := fun m b hb => by
      rw [hR]
      rcases cases' m b hb with ⟨_, b1⟩ | ⟨_, _, _, _, _, _, _, k, _, kb⟩
      · exact h.free m b b1
      · exact h.free k b kb
    new := fun m b t hm hp => by
      rw [hN]
      rcases cases' m b (by rw [hm]; rfl) with ⟨k1, b1⟩ | ⟨i, r, e1, n1, r1, b1, e2, _⟩
      · refine h.new m b t ?_ hp
        rw [hρ] at hm
        simpa only [headRef, if_pos k1] using hm
      · rw [hm] at e2
        exact hrf.2 r (List.mem_of_getElem? r1) b t e2.symm
    base := by rw [hw, hN]; exact h.base
    rlt := by rw [hw, hR]; exact h.rlt }

theorem head_sound {ω : Type} {z : ω} (h : Rel Mu nt S c a) {ss : List Slot} {K : DS ss → Option ω} (hr : atHead pars ss S K = some z) :
    ∃ x c', K x = some z ∧ Rel Mu nt (mkS ss x loopName) c' a ∧ Goes Mu pars c c' ∧ c'.w = c.w := by
  obtain ⟨y0, rs, h01, h2⟩ := runK_some hr
  cases hc : goodS pars ss && unlike (keepS ss ++ y0.own) && (y0.bor.all fun b => !(keepS ss ++ y0.own).any (Nat.beq b.1)) && y0.vars.isEmpty with
  | false => simp only [hc, reduceCtorEq] at h2
  | true =>
    simp only [hc] at h2
    simp only [Bool.and_eq_true, List.isEmpty_iff] at hc
    obtain ⟨⟨⟨hg, hu⟩, hbd⟩, hv0⟩ := hc
    have hdis : ∀ p ∈ y0.bor, p.1 ∉ keepS ss ++ y0.own := by
      intro p hp hmem
      have := List.all_eq_true.1 hbd p hp
      simp only [Bool.not_eq_true', List.any_eq_false, nat_beq, decide_eq_true_eq] at this
      exact this _ hmem rfl
    have hB := readS_bor ss h01
    obtain ⟨c1, o1, l1, w1, ρ1, f1, n1⟩ := h.objs.freezes _ hB
    have hrel1 : Rel Mu nt (S.apply (frzs y0.bor)) c1 a := h.objs' l1 (fun t => frzs_tmp S _ t) o1
    obtain ⟨y, h1, ex, eo, hb, hv⟩ := readS_frz hB ss h01 (fun _ h => h) (fun m hm u hh => hdis _ hh (by simp [hm])) (fun m hm u hh => hdis _ hh (by simp [hm])) hv0
    rw [← ex] at h2
    rw [← eo] at hu
    have hnd := unlike_nodup hu
    simp only [goodS, Bool.and_eq_true] at hg
    obtain ⟨⟨⟨hp, ho⟩, hkn⟩, hsl⟩ := hg
    have ho' : ownsS ss ≤ 1000 := Nat.le_of_ble_eq_true ho
    have hpk : ∀ m ∈ pars, m ∈ keepS ss := by
      intro m hm
      have := List.all_eq_true.1 hp m hm
      obtain ⟨k, hk, e⟩ := List.any_eq_true.1 this
      rw [Nat.eq_of_beq_eq_true e]; exact hk
    have hkeep : ∀ m ∈ keepS ss, ¬ (loopName ≤ m ∧ m < loopName + ownsS ss) := by
      intro m hm hh
      have := List.all_eq_true.1 hkn m hm
      simp only [Bool.or_eq_true] at this
      rcases this with h | h
      · have : m < loopName := by simpa using h
        omega
      · have : parName ≤ m := Nat.le_of_ble_eq_true h
        simp only [parName, loopName] at this hh
        omega
    have hslot : ∀ s ∈ ss, slotOk (keepS ss) s := by
      intro s hs
      have := List.all_eq_true.1 hsl s hs
      cases s with
      | tmp i t => exact this
      | obj m t => exact this
      | fix i m p =>
        obtain ⟨k, hk, e⟩ := List.any_eq_true.1 this
        show m ∈ keepS ss
        rw [Nat.eq_of_beq_eq_true e]; exact hk
      | fixo i m =>
        obtain ⟨k, hk, e⟩ := List.any_eq_true.1 this
        show m ∈ keepS ss
        rw [Nat.eq_of_beq_eq_true e]; exact hk
      | ept => trivial
      | row => trivial
    obtain ⟨refs, hrf, hrl, hm⟩ := head_ind hrel1 (keepS ss) ss y loopName h1 hb hv hslot (fun _ h => h)
    rw [← hrl] at hkeep
    have hmv : Moves c1 { c1 with ρ := headRef c1 (keepS ss) loopName refs } := ⟨rfl, fun b o hr => ⟨hr, fun hn => hn⟩⟩
    obtain ⟨t1, t2, t3⟩ := hm { c1 with ρ := headRef c1 (keepS ss) loopName refs } hmv (fun _ _ _ _ hn => hn) (fun i r hr => headRef_new hkeep hr) (fun m hm => by simp [headRef, hm]) (by rw [← hrl]; exact hkeep) (List.nodup_append.1 hnd).1
    rw [← hrl] at t2 t3
    refine ⟨y.x, { c1 with ρ := headRef c1 (keepS ss) loopName refs }, h2, ⟨h.size, h.defers, t1, head_objs (c' := { c1 with ρ := headRef c1 (keepS ss) loopName refs }) o1 hrf hnd hkeep rfl rfl rfl rfl t2 t3⟩, ?_, w1⟩
    refine (Step.frz (Mu := Mu) l1 w1 n1).goes.trans ?_
    exact ⟨rfl, fun _ _ h => h, fun _ _ _ _ h => h, Nat.le_refl _, fun _ _ h => .inl h, fun _ _ _ => rfl, rfl, rfl, rfl, fun m hm hn => .inr (.inl (by simp [headRef, hpk m hm]))⟩

end
end Go.Eng
