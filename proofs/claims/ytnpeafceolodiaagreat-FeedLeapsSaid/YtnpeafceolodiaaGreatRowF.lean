/- The rows of the feed laws: two whole numbers and a slice of whole numbers come in; true comes out. -/
import Derived.Test.YtnpeafceolodiaaGreatLawD
import Derived.Test.YtnpeafceolodiaaGreatRows
import Derived.ProofKit
import Derived.OpenShut
namespace Go.Eng
open Go.Proofs Go.RowKit Go.ChangeShapes
set_option linter.unusedVariables false
set_option maxRecDepth 100000

def ps3 : List PK := [.val (.int .i64), .val (.int .i64), .val (.sl .ro (.int .i64))]
def rs1 : List RK := [.val .bool]

/-- The context of a call from outside: what may be looked at is one row. -/
def outer (W : World) (b lo hi : Nat) : Cx := { ρ := fun _ => .none, R := fun b' o => b' = b ∧ lo ≤ o ∧ o < hi, w := W, N := fun b => W.heap.size ≤ b }

theorem okI64 {n : Int} (h : (Lit.int .i64 n).wf = true) : okInt .i64 n := by
  have h : -9223372036854775808 ≤ n ∧ n ≤ 9223372036854775807 := by simpa [Lit.wf, IntKind.min, IntKind.max, IntKind.signed, IntKind.bits] using h
  exact wrapI n (by omega) (by omega)

theorem repL_ints {R : Nat → Nat → Prop} {w : World} {k : IntKind} : ∀ {l : List Int}, (∀ x ∈ l, okInt k x) → RepL (Rep R w (.int k)) l (l.map (.int k))
  | [], _ => rfl
  | x :: l, h => ⟨[.int k x], l.map (.int k), rfl, ⟨rfl, h x (List.mem_cons_self ..)⟩, repL_ints fun y hy => h y (List.mem_cons_of_mem _ hy)⟩

theorem walk3 {f : FuncId} {fn : Func} {F : DP ps3 → Option (DO ps3 × DR rs1)} (hc : Contract Tryz.prog f ⟨ps3, rs1, F⟩)
    (hf : Tryz.prog.funcs[f]? = some fn) (hn : (fn.name == "runtime.NumGoroutine") = false) (hb : fn.body.isNone = false)
    {a b : Int} {l : List Int} (hF : F (a, (b, (l, ()))) = some ((), (true, ()))) (wa : okInt .i64 a) (wb : okInt .i64 b) {x : Value} {W : World} (blk lo hi : Nat)
    (hlt : ∀ o, lo ≤ o → o < hi → blk < W.heap.size) (hx : TR (outer W blk lo hi) (.sl false (.int .i64) l) x) :
    Calls Tryz.prog f #[.int .i64 a, .int .i64 b, x] W fun e W' => e = .returned (.bool true) ∧ Below W.heap.size W W' := by
  have h := hc (fun b => W.heap.size ≤ b) (outer W blk lo hi) #[.int .i64 a, .int .i64 b, x] (a, (b, (l, ()))) () (true, ()) hF (fun b h => h) rfl ?_ ?_ 0 [.bool true] [] (by unfold parName; omega) rfl (by show (0 : Nat) + 0 ≤ 1000; omega)
  · unfold CallF at h
    rw [callFunc_enter hf hn hb] at h
    refine Calls.mono h fun e W' he => ?_
    cases e with
    | returned v =>
      obtain ⟨c', rfl, hE⟩ := he
      have hv : TR c' (.bool true) v := hE.val
      have hv : v = .bool true := by
        have : [v] = [Value.bool true] := hv
        simpa using this
      subst hv
      exact ⟨rfl, ⟨hE.goes.os, hE.goes.tape, hE.goes.output, hE.goes.size, fun k hk => hE.goes.kept k hk (by omega)⟩⟩
    | _ => exact he.elim
  · refine { obj := fun m => ?_, apart := fun m n b h => (by cases h), free := fun m b h => (by cases h), new := fun m b t h => (by cases h), base := fun b h => h, rlt := ?_ }
    · show ObjR _ V.undef Ref.none
      trivial
    · intro b o h
      obtain ⟨h0, h1, h2⟩ := h
      rw [h0]
      exact hlt o h1 h2
  · intro i
    match i with
    | 0 => exact ⟨rfl, wa⟩
    | 1 => exact ⟨rfl, wb⟩
    | 2 => exact hx
    | i + 3 => exact trivial

/-- The contract of a law over two whole numbers and a slice, as the row wants it. -/
theorem post3 {f : FuncId} {fn : Func} {F : DP ps3 → Option (DO ps3 × DR rs1)} (hc : Contract Tryz.prog f ⟨ps3, rs1, F⟩)
    (hf : Tryz.prog.funcs[f]? = some fn) (hn : (fn.name == "runtime.NumGoroutine") = false) (hb : fn.body.isNone = false)
    (hp : fn.params = #[3, 3, 25]) (hr : fn.resultTypes = #[4])
    (hF : ∀ a b l, F (a, (b, (l, ()))) = some ((), (true, ())))
    {s : ChangeSpec} (hsv : s.vars = []) (hsr : ∀ H d1 d2 d3, s.fn H [d1, d2, d3] = { results := [.lit (.bool true)], args := [d1, d2, d3] })
    (H : Type) (enc : TypeId × Value → H) (W : World) (base : Nat) (args : Array Value) (ds gs : List (DataW H)) (before : List MemPlace)
    (hval : ∀ (j : Nat) t v, fn.params[j]? = some t → args[j]? = some v → Value.okWide Tryz.prog W .any base t v)
    (hW : DataW.Whole enc Tryz.prog fn.params.toList s.vars false W args.toList ds gs before) :
    Calls Tryz.prog f args W fun e W' => ∃ v, e = .returned v ∧ s.post enc Tryz.prog fn false true false false W args v W' := by
  have hW' := hW
  obtain ⟨p, q, hA0, hV, rfl, hfz, hnd⟩ := hW
  have hA : DataW.TrodAll enc Tryz.prog W 0 (fun _ => true) true fn.params.toList args.toList ds p := hA0
  rw [hp] at hA hval
  obtain ⟨v0, v1, v2, d0, d1, d2, p0, p1, p2, rfl, rfl, rfl, h0, h1, h2⟩ := trodAll_three hA
  rw [hsv] at hV
  obtain ⟨rfl, rfl⟩ := trodVars_none hV
  obtain ⟨a, rfl, rfl, rfl, wa⟩ := open_int Tryz.underlying3 (hval 0 3 v0 rfl rfl) h0
  obtain ⟨b, rfl, rfl, rfl, wb⟩ := open_int Tryz.underlying3 (hval 1 3 v1 rfl rfl) h1
  clear hA0
  simp only [List.append_nil, List.nil_append] at hW'
  have shut : ∀ {W' : World} {l : List Int}, Below W.heap.size W W' → (∀ sp : Nat → Bool, (∀ p ∈ p2, sp p.block = true) → DataW.Trod enc Tryz.prog W' 0 sp true 25 v2 d2 p2) →
      s.post enc Tryz.prog fn false true false false W #[.int .i64 a, .int .i64 b, v2] (.bool true) W' := by
    intro W' l hbl hsl
    have hres : ∀ (bb : Nat) (sp : Nat → Bool) (hd : Bool), DataW.TrodAll enc Tryz.prog W' bb sp hd fn.resultTypes.toList ((Value.bool true).resultList fn.resultTypes.size) (s.fn H ([.lit (.int .i64 a), .lit (.int .i64 b), d2] ++ [])).results [] := by
      intro bb sp hd
      rw [hr, List.append_nil, hsr]
      exact trodAll_cons_mk (shut_bool Tryz.underlying4 _) trodAll_mk0
    have hargs : ∀ sp : Nat → Bool, (∀ p ∈ p2, sp p.block = true) → DataW.TrodAll enc Tryz.prog W' 0 sp true fn.params.toList [.int .i64 a, .int .i64 b, v2] (s.fn H ([.lit (.int .i64 a), .lit (.int .i64 b), d2] ++ [])).args p2 := by
      intro sp hsp
      rw [hp, List.append_nil, hsr]
      exact trodAll_mk3 (shut_int Tryz.underlying3 wa) (shut_int Tryz.underlying3 wb) (hsl sp hsp)
    have hvars : ∀ sp : Nat → Bool, DataW.TrodVars enc Tryz.prog W' sp s.vars (s.fn H ([.lit (.int .i64 a), .lit (.int .i64 b), d2] ++ [])).vars [] := by
      intro sp
      rw [hsv, List.append_nil, hsr]
      exact rfl
    have hlt : ∀ p ∈ p2, p.block < W.heap.size := hW'.lt
    have hok : ∀ (j : Nat) (t : TypeId) (r : Value), fn.resultTypes[j]? = some t → ((Value.bool true).resultList fn.resultTypes.size)[j]? = some r → Value.okWide Tryz.prog W' .any 0 t r := ok_one hr rfl (okWide_bool_mk Tryz.underlying4 _)
    refine ⟨_, _, p2, [], p2, [], hW', hres _ _ _, hargs _ (fun p hp => by simpa using hlt p hp), hvars _, hbl.frame _, fun _ => ?_⟩
    refine ⟨hok, _, _, p2 ++ [], ⟨p2, [], trodAll_append (hargs _ (fun _ _ => rfl)) (hres _ _ _), hvars _, rfl, ?_, ?_⟩, ?_⟩
    · intro bb off hpp
      rw [hbl.frozen (p := ⟨bb, off, none⟩) (show bb < W.heap.size from hlt (.cell bb off) (by simpa using hpp))]
      exact hfz bb off (by simpa using hpp)
    · intro hap
      simpa using hnd hap
    · intro p hpp _
      simpa using hpp
  obtain ⟨a0, len0, cap0, rfl⟩ := Go.WideShapes.okWide_slice Tryz.underlying25 (hval 2 25 v2 rfl rfl)
  have h2' := h2
  obtain ⟨fuel, hfu⟩ := h2
  have hcell : Tryz.prog.cellsOf 3 = 1 := by kernel_rfl
  rcases open_ints Tryz.underlying25 Tryz.underlying3 hcell hfu with ⟨hcs, hx⟩ | ⟨ad, len, cap, zs, hcs, _, hle, hmax, hlen, hx, hat, hwf⟩
  · simp [Value.cells] at hcs
    obtain ⟨rfl, rfl, rfl⟩ := hcs
    simp only [Prod.mk.injEq] at hx
    obtain ⟨rfl, rfl⟩ := hx
    refine (walk3 hc hf hn hb (hF a b []) (okI64 wa) (okI64 wb) (W := W) 0 0 0 (fun o h1 h2 => by omega) ⟨Nat.zero_le _, none, 0, rfl, fun h => absurd rfl h⟩).mono fun e W' ⟨he, hg⟩ => ?_
    subst he
    exact ⟨_, rfl, shut (l := []) hg fun sp hsp => shut_slice_nil Tryz.underlying25⟩
  · simp [Value.cells] at hcs
    obtain ⟨rfl, rfl, rfl⟩ := hcs
    simp only [Prod.mk.injEq] at hx
    obtain ⟨rfl, rfl⟩ := hx
    simp only [if_true] at hlen
    have hlt : ∀ i, i < zs.length → ad.block < W.heap.size := fun i hi => by
      have hm : MemPlace.cell ad.block (ad.off + i) ∈ MemPlace.row ad zs.length := MemPlace.mem_row.2 ⟨i, hi, rfl⟩
      exact hW'.lt _ (by simpa using hm)
    have hTR : TR (outer W ad.block ad.off (ad.off + zs.length)) (.sl false (.int .i64) (zs.take len0)) (.slice (some ad) len0 cap0) := by
      have hl : (zs.take len0).length = len0 := by rw [List.length_take]; omega
      refine ⟨by show (zs.take len0).length ≤ maxLen; omega, some ad, cap0 - len0, ?_, fun hne => ?_⟩
      · show [Value.slice (some ad) len0 cap0] = [Value.slice (some ad) (zs.take len0).length ((zs.take len0).length + (cap0 - len0))]
        rw [hl, Nat.add_sub_cancel' hle]
      · have hpos : 0 < zs.length := by
          rcases Nat.eq_zero_or_pos zs.length with h | h
          · exact absurd (by rw [List.length_eq_zero_iff.1 h]; exact List.take_nil) hne
          · exact h
        obtain ⟨bb, off, rfl, hat'⟩ := Go.ints_at hat hpos
        refine ⟨bb, off, (zs.take len0).map (.int .i64), rfl, repL_ints fun x hx => okI64 (hwf x (List.mem_of_mem_take hx)), ?_⟩
        intro j u hj
        rw [List.getElem?_map, List.getElem?_take] at hj
        by_cases hjl : j < len0
        · rw [if_pos hjl, List.getElem?_eq_getElem (by omega)] at hj
          simp only [Option.map_some, Option.some.injEq] at hj
          refine ⟨⟨⟨rfl, by dsimp only; omega, by dsimp only; omega⟩, fun h => by cases h⟩, ?_⟩
          show W.cell? _ = _
          rw [hat' j (by omega), ← hj]
          congr 2
          simp [List.getD, show j < zs.length by omega]
        · rw [if_neg hjl] at hj; cases hj
    refine (walk3 hc hf hn hb (hF a b (zs.take len0)) (okI64 wa) (okI64 wb) (W := W) ad.block ad.off (ad.off + zs.length) (fun o h1 h2 => hlt (o - ad.off) (by omega)) hTR).mono fun e W' ⟨he, hg⟩ => ?_
    subst he
    refine ⟨_, rfl, shut (l := []) hg fun sp hsp => ⟨2, ?_⟩⟩
    refine shut_ints 0 Tryz.underlying25 Tryz.underlying3 hcell (Nat.zero_le _) hle hmax ?_ (fun i hi => ?_) hwf
    · by_cases hz : 0 < zs.length
      · rw [if_pos (show sp ad.block = true from hsp (.cell ad.block (ad.off + 0)) (MemPlace.mem_row.2 ⟨0, hz, rfl⟩))]; exact hlen
      · split <;> omega
    · rw [hg.cell (by rw [Go.ChangeShapes.block_add]; exact hlt i hi)]
      exact hat i hi
end Go.Eng
