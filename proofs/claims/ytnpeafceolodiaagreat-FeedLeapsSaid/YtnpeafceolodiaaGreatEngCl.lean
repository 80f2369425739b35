/- The engine, part Cl: slices.Clone, which holds its argument against nil. -/
import Derived.Test.YtnpeafceolodiaaGreatEngTa
import Derived.WalkSpells
namespace Go.Eng
open Go.RowKit

def cloneOp (T : TypeId) : Oper := { dst := some 4, op := .binOp .eql T (.tmp 3) (.const (.slice none 0 0)) T, type := 4, pos := "slices.go:357", after := #[{ on := 0, ground := .data }], guard := none }
def cloneTest (T : TypeId) : Array Oper := #[{ dst := some 3, op := .move (.tmp 0), type := T, pos := "slices.go:357", after := #[], guard := none },
    cloneOp T]
def cloneRest (T : TypeId) : Code := (Code.region 3
    #[{ dst := some 5, op := .buildSlice T 0 #[], type := T, pos := "slices.go:362", after := #[], guard := none },
      { dst := some 6, op := .move (.tmp 0), type := T, pos := "slices.go:362", after := #[], guard := none },
      { dst := some 7, op := .call { callee := .builtin .append, args := #[.tmp 5, .tmp 6], argTypes := #[T, T] }, type := T, pos := "slices.go:362",
        after := #[{ on := 0, ground := .data }, { on := 1, ground := .data }], guard := none },
      { dst := some 2, op := .assign (.tmp 7), type := T, pos := "slices.go:362",
        after := #[{ on := 2, ground := .data }, { on := 2, ground := .chain }, { on := 0, ground := .phase }, { on := 1, ground := .phase }, { on := 2, ground := .phase }], guard := none }] false).seq .ret
def cloneCond (T : TypeId) : Code := .cond (.tmp 4) ((Code.region 2 #[{ dst := some 2, op := .assign (.const (.slice none 0 0)), type := T, pos := "slices.go:358", after := #[], guard := none }] false).seq .ret) .skip
def cloneHead (T : TypeId) : Code := .region 0 #[{ dst := some 2, op := .assign (.const (.slice none 0 0)), type := T, pos := "slices.go:355", after := #[], guard := none }] false
def cloneCode (T : TypeId) : Code := (cloneHead T).seq (((Code.region 1 (cloneTest T) false).seq (cloneCond T)).seq (cloneRest T))

def cloneQ (md : Md) (t : Ty) : Callee := { ps := [.val (.sl .ro t)], rs := [.val (.sl md t)], F := fun x => if (show List t.den from x.1).length ≤ sizeMax then some ((), (show List t.den from x.1, ())) else none }

section
variable {P : Program} {tabL : List (Nat × Ty)}

def cloneE (tabL : List (Nat × Ty)) : Env := { tab := lookT tabL, call := fun _ => none, slots := fun _ => [], nt := 8, pars := [] }

def onNormal (e : Exit) (S : St) : Option St := match e with
  | .normal => some S
  | _ => none

/-- The state ahead of the append. -/
def cloneSt (t : Ty) (l : List t.den) : St := ((((startS [.val (.sl .ro t)] ((l, ()) : DP [.val (.sl .ro t)]) 0 startName).set (.tmp 2) .nils).apply [(.tmp 3, .sl false t l)])).set (.tmp 4) (.bool false)
def cloneK (tabL : List (Nat × Ty)) (fn : Func) (md : Md) (t : Ty) (e : Exit) (S : St) : Option (Unit × List t.den × Unit) := match e with
  | .ret => endK (cloneE tabL) fn (cloneQ md t).ps (cloneQ md t).rs S some
  | _ => none
/-- What the rest shows. -/
def cloneRun (t : Ty) (l : List t.den) : Option (Unit × List t.den × Unit) := match (bif decide (([] : List t.den).length + l.length ≤ sizeMax) then some () else none) with
  | some _ => some ((), ([] ++ l, ()))
  | none => none

theorem clone_ct (ht : AllTy P (lookT tabL) tabL) (hdp : deepB tabL = true) (hm : P.follows .mixedOrders = true) {T : TypeId} {t : Ty} {md : Md} (hT : lookT tabL T = some (.sl .ro t)) (hmd : md = .ownx ∨ (md = .own ∧ t.flat = true))
    {f : FuncId} {fn : Func} (hf : P.funcs[f]? = some fn) (hn : (fn.name == "runtime.NumGoroutine") = false) (hbody : fn.body = some (cloneCode T)) (hres : fn.results = #[.tmp 2]) (hnt : fn.ntmps = 8)
    (hrun' : ∀ l : List t.den, exec (cloneE tabL) 0 0 (cloneRest T) (cloneSt t l) (cloneK tabL fn md t) = cloneRun t l) : Contract P f (cloneQ md t) := by
  have hE : EnvOk P (cloneE tabL) := ⟨fun T t h => allTy_look ht h, fun T t h => deepB_look hdp h, by
    intro Mu nt S c a o d cl f q vs δ _ _ _ _ _ _ hq
    simp [cloneE] at hq⟩
  have hTy := allTy_look ht hT
  obtain ⟨e, hu, _⟩ := hTy.desc
  have hgood := hTy.good
  simp only [Ty.good, Bool.and_eq_true, decide_eq_true_eq] at hgood
  intro Mu c args x o r hF hMu hsz hobj htmp n us d1 hnb hput hlen
  obtain ⟨l, u⟩ := x
  change List t.den at l
  have hF' : (if (l : List t.den).length ≤ sizeMax then some ((), (l, ())) else none) = some (o, r) := hF
  split at hF'
  · rename_i hl
    obtain ⟨rfl, rfl⟩ := Prod.mk.inj (Option.some.inj hF')
    unfold CallF
    rw [callFunc_enter hf hn (by rw [hbody]; rfl)]
    refine calls_of_wp hf hbody ?_
    have ho2 : goodR (cloneQ md t).rs = true := by
      show ((Ty.sl md t).plain.good && true) = true
      simp [Ty.plain, Ty.good, hgood.1.2, hgood.2]
    have ho3 : goodP (cloneQ md t).ps = true := by
      show ((Ty.sl .ro t).plain.good && true) = true
      simp [Ty.plain, Ty.good, hgood.1.2, hgood.2]
    have hsz1 : args.size = 1 := hsz
    have r0 : Rel Mu 8 (startS (cloneQ md t).ps (l, u) 0 startName) c { tmps := args ++ Array.replicate (fn.ntmps - args.size) undef, defers := [] } := by
      refine ⟨by simp [hsz1, hnt], rfl, fun i => ?_, hobj⟩
      have := htmp i
      by_cases hi : i < args.size
      · have e : (args ++ Array.replicate (fn.ntmps - args.size) undef).getD i undef = args.getD i undef := by
          simp [Array.getD_eq_getD_getElem?, Array.getElem?_append_left hi]
        rw [e]; exact this
      · rw [startS_tmp (cloneQ md t).ps (l, u) 0 _ i (.inr (by show 0 + 1 ≤ i; omega))]
        trivial
    refine wp_seq (exec_sound (Mu := Mu) hE hm (fuel := 0) (cloneHead T) 0 _ c _ onNormal _ hMu r0 rfl fun e S1 c1 a1 hk h1 g1 => ?_)
    cases e <;> simp only [onNormal, reduceCtorEq, Option.some.injEq] at hk
    have hMu1 : ∀ b, c1.w.heap.size ≤ b → Mu b := fun b hb => hMu b (Nat.le_trans g1.size hb)
    refine wp_seq (wp_seq (wp_region ?_))
    rw [show List.range (cloneTest T).size = [0, 1] from rfl, wpOps_cons]
    refine gL_sound (E := cloneE tabL) hE hMu1 h1 (o := { dst := some 3, op := .move (.tmp 0), type := T, pos := "slices.go:357", after := #[], guard := none }) (δ := [(.tmp 3, S1 (.tmp 0))]) (rs := [.tmp 0]) rfl rfl fun c2 a2 r2 s2 => ?_
    rw [wpOps_cons]
    have hMu2 : ∀ b, c2.w.heap.size ≤ b → Mu b := fun b hb => hMu1 b (Nat.le_trans s2.size hb)
    have h0 : S1 (.tmp 0) = .sl false t l := by rw [hk]; rfl
    have ht3 := r2.tmp 3
    have e3 : (S1.apply [(Loc.tmp 3, S1 (Loc.tmp 0))]) (.tmp 3) = .sl false t l := by rw [apply_cons, St.set_same, h0]
    rw [e3] at ht3
    have hrep := ht3.sl
    simp only [Rep] at hrep
    obtain ⟨_, ad, rr, ea, hmem⟩ := hrep
    simp at ea
    have ea : a2.eval (.tmp 3) = .slice ad l.length (l.length + rr) := by simpa [Act.eval] using ea
    have hnil : ad.isNone = true → l = [] := by
      intro hn
      apply Classical.byContradiction
      intro hne
      obtain ⟨b, oo, es, e, _⟩ := hmem hne
      rw [e] at hn; simp at hn
    have hrun : (execOp a2.eval (cloneOp T)).run P c2.w = .ok (.value (.bool ad.isNone)) c2.w := by
      simp only [execOp, cloneOp, ea, Sem.run_bind]
      have hg : (eqGuard .eql T (.tmp 3) (.const (.slice none 0 0)) (.slice ad l.length (l.length + rr)) (a2.eval (.const (.slice none 0 0)))).run P c2.w = .ok () c2.w := by
        simp [eqGuard, Act.eval]
      have hb : (binOp .eql T (.slice ad l.length (l.length + rr)) (a2.eval (.const (.slice none 0 0)))).run P c2.w = .ok (.bool ad.isNone) c2.w := Lib.run_eql_slice_nil _ _ _ _ _ _ _ _ hu
      rw [hg]
      simp only [Result.andThen_ok, hb, Sem.run_pure]
    have hi : (cloneTest T)[1]? = some (cloneOp T) := rfl
    unfold wpOp
    rw [hi]
    dsimp only
    rw [if_pos (by simp [Region.wanted, cloneOp])]
    left
    unfold Oper.wp
    rw [hrun]
    have r3 : Rel Mu 8 ((S1.apply [(Loc.tmp 3, S1 (Loc.tmp 0))]).set (.tmp 4) (.bool ad.isNone)) c2 (a2.put (some 4) (.bool ad.isNone)) := Rel.setTmp r2 (show 4 < 8 by decide) rfl
    have g2 : Goes Mu (parsOf (cloneQ md t).ps 0) c c2 := Goes.trans ⟨g1.new, g1.more, g1.mem, g1.size, g1.newR, g1.kept, g1.os, g1.tape, g1.output, by intro m hm; simp [cloneQ, parsOf] at hm⟩ s2.goes
    have hev : (a2.put (some 4) (.bool ad.isNone)).eval (.tmp 4) = .bool ad.isNone := by
      have := r3.tmp 4
      rw [St.set_same] at this
      exact this.bool
    show (cloneCond T).wp P _ (a2.put (some 4) (.bool ad.isNone)) c2.w
    have fin : ∀ (S' : St) (c' : Cx) (a' : Act), Rel Mu 8 S' c' a' → Goes Mu [] c2 c' → endK (cloneE tabL) fn (cloneQ md t).ps (cloneQ md t).rs S' some = some ((), (l, ())) →
        bodyPost P fn (fun | .returned v, w'' => ∃ c'', c''.w = w'' ∧ Ends Mu (cloneQ md t) c c'' n us d1 () v | _, _ => False) .ret a' c'.w := by
      intro S' c' a' hr hg hk
      exact end_sound (E := cloneE tabL) hE.tab ho2 ho3 (show 1 ≤ 500 by decide) hobj hnb hput hlen hr (g2.trans hg) hk
    have hk1 : S1 = (startS (cloneQ md t).ps (l, u) 0 startName).set (.tmp 2) .nils := by rw [hk]; rfl
    refine wp_cond hev ?_
    generalize hb : ad.isNone = b at *
    cases b with
    | true =>
      have hl0 := hnil rfl
      subst hl0
      refine exec_sound (E := cloneE tabL) (Mu := Mu) (z := ((), (([] : List t.den), ()))) hE hm (fuel := 0) _ 0 _ c2 _ (fun e S => match e with | .ret => endK (cloneE tabL) fn (cloneQ md t).ps (cloneQ md t).rs S some | _ => none) _ hMu2 r3 ?_ ?_
      · rw [hk1]
        show endK (cloneE tabL) fn (cloneQ md t).ps (cloneQ md t).rs _ some = _
        unfold endK
        rw [hres]
        rcases hmd with rfl | ⟨rfl, hfl⟩ <;> rfl
      · intro e S' c' a' hk h g
        cases e <;> simp only [reduceCtorEq] at hk
        exact fin S' c' a' h g hk
    | false =>
      refine wp_skip ?_
      have hz : exec (cloneE tabL) 0 0 (cloneRest T) ((S1.apply [(Loc.tmp 3, S1 (Loc.tmp 0))]).set (.tmp 4) (.bool false)) (cloneK tabL fn md t) = some ((), (l, ())) := by
        rw [h0, hk1]
        refine (hrun' l).trans ?_
        have : decide (([] : List t.den).length + l.length ≤ sizeMax) = true := by simpa using hl
        unfold cloneRun
        rw [this]
        simp
      refine exec_sound (E := cloneE tabL) (Mu := Mu) (z := ((), (l, ()))) hE hm (fuel := 0) (cloneRest T) 0 _ c2 _ (cloneK tabL fn md t) _ hMu2 r3 hz ?_
      · intro e S' c' a' hk h g
        cases e <;> simp only [cloneK, reduceCtorEq] at hk
        exact fin S' c' a' h g hk
  · simp at hF'

end
end Go.Eng
