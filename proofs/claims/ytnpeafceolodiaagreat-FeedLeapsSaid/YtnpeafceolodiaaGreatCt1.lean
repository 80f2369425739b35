/- Contracts of functions. -/
import Derived.Test.YtnpeafceolodiaaGreatEngCl
import Derived.Test.YtnpeafceolodiaaGreatTw1
namespace Go.Eng
open Go.Proofs
set_option linter.unusedVariables false
set_option maxRecDepth 100000
def BIG : Nat := 1000000
def Q_cloneI : Callee := cloneQ .own (.int .i64)
theorem ct_cloneI : Contract Tryz.prog 100 Q_cloneI := clone_ct tab_ok tab_deep mixed (T := 25) rfl (.inr ⟨rfl, rfl⟩) Tryz.func100 (by kernel_rfl) rfl rfl rfl (fun l => by kernel_rfl)
def Q_cloneDealer : Callee := cloneQ .ownx (.prod (.int .i64) (.prod (.prod .bool (.prod (.arr 4 .u64) (.prod (.arr 4 .u64) .unit))) (.prod .str (.prod (.int .i64) (.prod .bool (.prod (.sl .ro (.arr 32 .u8)) (.prod (.sl .ro (.prod .bool (.prod (.arr 4 .u64) (.prod (.arr 4 .u64) .unit)))) (.prod .bool (.prod .bool (.prod (.prod .bool (.prod (.arr 4 .u64) (.prod (.arr 4 .u64) .unit))) .unit))))))))))
theorem ct_cloneDealer : Contract Tryz.prog 123 Q_cloneDealer := clone_ct tab_ok tab_deep mixed (T := 28) rfl (.inl rfl) Tryz.func123 (by kernel_rfl) rfl rfl rfl (fun l => by kernel_rfl)
def Q_cloneSeal : Callee := cloneQ .own (.arr 32 .u8)
theorem ct_cloneSeal : Contract Tryz.prog 124 Q_cloneSeal := clone_ct tab_ok tab_deep mixed (T := 47) rfl (.inr ⟨rfl, rfl⟩) Tryz.func124 (by kernel_rfl) rfl rfl rfl (fun l => by kernel_rfl)
def Q_clonePoint : Callee := cloneQ .own (.prod .bool (.prod (.arr 4 .u64) (.prod (.arr 4 .u64) .unit)))
theorem ct_clonePoint : Contract Tryz.prog 125 Q_clonePoint := clone_ct tab_ok tab_deep mixed (T := 48) rfl (.inr ⟨rfl, rfl⟩) Tryz.func125 (by kernel_rfl) rfl rfl rfl (fun l => by kernel_rfl)
def Q_ctwin : Callee := { ps := ps_ctwin, rs := rs_ctwin, F := fun x => ctwin BIG Q_cloneI.F Q_cloneDealer.F Q_cloneSeal.F Q_clonePoint.F x.1 }
theorem ct_ctwin : Contract Tryz.prog 65 Q_ctwin := ct_of (cs := ([(100, Q_cloneI), (123, Q_cloneDealer), (124, Q_cloneSeal), (125, Q_clonePoint)] : List (Nat × Callee))) (sl := (E_ctwin Q_cloneI.F Q_cloneDealer.F Q_cloneSeal.F Q_clonePoint.F).slots) tab_ok tab_deep ⟨⟨ct_cloneI, rfl, by decide⟩, ⟨ct_cloneDealer, rfl, by decide⟩, ⟨ct_cloneSeal, rfl, by decide⟩, ⟨ct_clonePoint, rfl, by decide⟩, trivial⟩ mixed BIG Tryz.func65 (by kernel_rfl) (fun x => ctwin_eq BIG Q_cloneI.F Q_cloneDealer.F Q_cloneSeal.F Q_clonePoint.F x.1)
def Q_pcheck : Callee := { ps := ps_pcheck, rs := rs_pcheck, F := fun x => pcheck BIG x.1 }
theorem ct_pcheck : Contract Tryz.prog 69 Q_pcheck := ct_of (cs := ([] : List (Nat × Callee))) (sl := (E_pcheck).slots) tab_ok tab_deep trivial mixed BIG Tryz.func69 (by kernel_rfl) (fun x => pcheck_eq BIG x.1)
def Q_pat : Callee := { ps := ps_pat, rs := rs_pat, F := fun x => pat BIG x.1 x.2.1 }
theorem ct_pat : Contract Tryz.prog 72 Q_pat := ct_of (cs := ([] : List (Nat × Callee))) (sl := (E_pat).slots) tab_ok tab_deep trivial mixed BIG Tryz.func72 (by kernel_rfl) (fun x => pat_eq BIG x.1 x.2.1)
def Q_pbegins : Callee := { ps := ps_pbegins, rs := rs_pbegins, F := fun x => pbegins BIG Q_pat.F x.1 x.2.1 }
theorem ct_pbegins : Contract Tryz.prog 70 Q_pbegins := ct_of (cs := ([(72, Q_pat)] : List (Nat × Callee))) (sl := (E_pbegins Q_pat.F).slots) tab_ok tab_deep ⟨⟨ct_pat, rfl, by decide⟩, trivial⟩ mixed BIG Tryz.func70 (by kernel_rfl) (fun x => pbegins_eq BIG Q_pat.F x.1 x.2.1)
def Q_cover : Callee := { ps := ps_cover, rs := rs_cover, F := fun x => cover BIG x.1 }
theorem ct_cover : Contract Tryz.prog 71 Q_cover := ct_of (cs := ([] : List (Nat × Callee))) (sl := (E_cover).slots) tab_ok tab_deep trivial mixed BIG Tryz.func71 (by kernel_rfl) (fun x => cover_eq BIG x.1)
def Q_cturn : Callee := { ps := ps_cturn, rs := rs_cturn, F := fun x => cturn BIG Q_ctwin.F Q_pcheck.F Q_pbegins.F Q_cover.F Q_pat.F x.1 }
theorem ct_cturn : Contract Tryz.prog 19 Q_cturn := ct_of (cs := ([(65, Q_ctwin), (69, Q_pcheck), (70, Q_pbegins), (71, Q_cover), (72, Q_pat)] : List (Nat × Callee))) (sl := (E_cturn Q_ctwin.F Q_pcheck.F Q_pbegins.F Q_cover.F Q_pat.F).slots) tab_ok tab_deep ⟨⟨ct_ctwin, rfl, by decide⟩, ⟨ct_pcheck, rfl, by decide⟩, ⟨ct_pbegins, rfl, by decide⟩, ⟨ct_cover, rfl, by decide⟩, ⟨ct_pat, rfl, by decide⟩, trivial⟩ mixed BIG Tryz.func19 (by kernel_rfl) (fun x => cturn_eq BIG Q_ctwin.F Q_pcheck.F Q_pbegins.F Q_cover.F Q_pat.F x.1)
def Q_has : Callee := { ps := ps_has, rs := rs_has, F := fun x => has BIG x.1 x.2.1 }
theorem ct_has : Contract Tryz.prog 80 Q_has := ct_of (cs := ([] : List (Nat × Callee))) (sl := (E_has).slots) tab_ok tab_deep trivial mixed BIG Tryz.func80 (by kernel_rfl) (fun x => has_eq BIG x.1 x.2.1)
def Q_cloneTx : Callee := cloneQ .ownx (.prod (.int .i64) (.prod (.sl .ro (.int .u8)) .unit))
theorem ct_cloneTx : Contract Tryz.prog 140 Q_cloneTx := clone_ct tab_ok tab_deep mixed (T := 64) rfl (.inl rfl) Tryz.func140 (by kernel_rfl) rfl rfl rfl (fun l => by kernel_rfl)
def Q_cloneB : Callee := cloneQ .own (.int .u8)
theorem ct_cloneB : Contract Tryz.prog 141 Q_cloneB := clone_ct tab_ok tab_deep mixed (T := 22) rfl (.inr ⟨rfl, rfl⟩) Tryz.func141 (by kernel_rfl) rfl rfl rfl (fun l => by kernel_rfl)
def Q_ltwin : Callee := { ps := ps_ltwin, rs := rs_ltwin, F := fun x => ltwin BIG Q_cloneTx.F Q_cloneB.F x.1 }
theorem ct_ltwin : Contract Tryz.prog 81 Q_ltwin := ct_of (cs := ([(140, Q_cloneTx), (141, Q_cloneB)] : List (Nat × Callee))) (sl := (E_ltwin Q_cloneTx.F Q_cloneB.F).slots) tab_ok tab_deep ⟨⟨ct_cloneTx, rfl, by decide⟩, ⟨ct_cloneB, rfl, by decide⟩, trivial⟩ mixed BIG Tryz.func81 (by kernel_rfl) (fun x => ltwin_eq BIG Q_cloneTx.F Q_cloneB.F x.1)
def Q_bcheck : Callee := { ps := ps_bcheck, rs := rs_bcheck, F := fun x => bcheck BIG x.1 }
theorem ct_bcheck : Contract Tryz.prog 82 Q_bcheck := ct_of (cs := ([] : List (Nat × Callee))) (sl := (E_bcheck).slots) tab_ok tab_deep trivial mixed BIG Tryz.func82 (by kernel_rfl) (fun x => bcheck_eq BIG x.1)
def Q_room : Callee := { ps := ps_room, rs := rs_room, F := fun x => room BIG x.1 }
theorem ct_room : Contract Tryz.prog 259 Q_room := ct_of (cs := ([] : List (Nat × Callee))) (sl := (E_room).slots) tab_ok tab_deep trivial mixed BIG Tryz.func259 (by kernel_rfl) (fun x => room_eq BIG x.1)
def Q_put : Callee := { ps := ps_put, rs := rs_put, F := fun x => put BIG Q_cloneB.F Q_room.F x.1 x.2.1 x.2.2.1 }
theorem ct_put : Contract Tryz.prog 200 Q_put := ct_of (cs := ([(141, Q_cloneB), (259, Q_room)] : List (Nat × Callee))) (sl := (E_put Q_cloneB.F Q_room.F).slots) tab_ok tab_deep ⟨⟨ct_cloneB, rfl, by decide⟩, ⟨ct_room, rfl, by decide⟩, trivial⟩ mixed BIG Tryz.func200 (by kernel_rfl) (fun x => put_eq BIG Q_cloneB.F Q_room.F x.1 x.2.1 x.2.2.1)
def Q_putPart : Callee := { ps := ps_putPart, rs := rs_putPart, F := fun x => putPart BIG Q_put.F x.1 x.2.1 }
theorem ct_putPart : Contract Tryz.prog 201 Q_putPart := ct_of (cs := ([(200, Q_put)] : List (Nat × Callee))) (sl := (E_putPart Q_put.F).slots) tab_ok tab_deep ⟨⟨ct_put, rfl, by decide⟩, trivial⟩ mixed BIG Tryz.func201 (by kernel_rfl) (fun x => putPart_eq BIG Q_put.F x.1 x.2.1)
def Q_bbytes : Callee := { ps := ps_bbytes, rs := rs_bbytes, F := fun x => bbytes BIG Q_bcheck.F Q_put.F Q_putPart.F x.1 x.2.1 }
theorem ct_bbytes : Contract Tryz.prog 142 Q_bbytes := ct_of (cs := ([(82, Q_bcheck), (200, Q_put), (201, Q_putPart)] : List (Nat × Callee))) (sl := (E_bbytes Q_bcheck.F Q_put.F Q_putPart.F).slots) tab_ok tab_deep ⟨⟨ct_bcheck, rfl, by decide⟩, ⟨ct_put, rfl, by decide⟩, ⟨ct_putPart, rfl, by decide⟩, trivial⟩ mixed BIG Tryz.func142 (by kernel_rfl) (fun x => bbytes_eq BIG Q_bcheck.F Q_put.F Q_putPart.F x.1 x.2.1)
def Q_rounds : Callee := { ps := ps_rounds, rs := rs_rounds, F := fun x => rounds BIG  }
theorem ct_rounds : Contract Tryz.prog 202 Q_rounds := ct_of (cs := ([] : List (Nat × Callee))) (sl := (E_rounds).slots) tab_ok tab_deep trivial mixed BIG Tryz.func202 (by kernel_rfl) (fun x => rounds_eq BIG )
def Q_padded : Callee := { ps := ps_padded, rs := rs_padded, F := fun x => padded BIG x.1 }
theorem ct_padded : Contract Tryz.prog 203 Q_padded := ct_of (cs := ([] : List (Nat × Callee))) (sl := (E_padded).slots) tab_ok tab_deep trivial mixed BIG Tryz.func203 (by kernel_rfl) (fun x => padded_eq BIG x.1)
def Q_high : Callee := { ps := ps_high, rs := rs_high, F := fun x => high BIG x.1 }
theorem ct_high : Contract Tryz.prog 204 Q_high := ct_of (cs := ([] : List (Nat × Callee))) (sl := (E_high).slots) tab_ok tab_deep trivial mixed BIG Tryz.func204 (by kernel_rfl) (fun x => high_eq BIG x.1)
def Q_rotl : Callee := { ps := ps_rotl, rs := rs_rotl, F := fun x => rotl BIG x.1 x.2.1 }
theorem ct_rotl : Contract Tryz.prog 205 Q_rotl := ct_of (cs := ([] : List (Nat × Callee))) (sl := (E_rotl).slots) tab_ok tab_deep trivial mixed BIG Tryz.func205 (by kernel_rfl) (fun x => rotl_eq BIG x.1 x.2.1)
def Q_sum : Callee := { ps := ps_sum, rs := rs_sum, F := fun x => sum BIG Q_rounds.F Q_padded.F Q_high.F Q_rotl.F x.1 }
theorem ct_sum : Contract Tryz.prog 143 Q_sum := ct_of (cs := ([(202, Q_rounds), (203, Q_padded), (204, Q_high), (205, Q_rotl)] : List (Nat × Callee))) (sl := (E_sum Q_rounds.F Q_padded.F Q_high.F Q_rotl.F).slots) tab_ok tab_deep ⟨⟨ct_rounds, rfl, by decide⟩, ⟨ct_padded, rfl, by decide⟩, ⟨ct_high, rfl, by decide⟩, ⟨ct_rotl, rfl, by decide⟩, trivial⟩ mixed BIG Tryz.func143 (by kernel_rfl) (fun x => sum_eq BIG Q_rounds.F Q_padded.F Q_high.F Q_rotl.F x.1)
def Q_bhash : Callee := { ps := ps_bhash, rs := rs_bhash, F := fun x => bhash BIG Q_bbytes.F Q_sum.F x.1 x.2.1 }
theorem ct_bhash : Contract Tryz.prog 83 Q_bhash := ct_of (cs := ([(142, Q_bbytes), (143, Q_sum)] : List (Nat × Callee))) (sl := (E_bhash Q_bbytes.F Q_sum.F).slots) tab_ok tab_deep ⟨⟨ct_bbytes, rfl, by decide⟩, ⟨ct_sum, rfl, by decide⟩, trivial⟩ mixed BIG Tryz.func83 (by kernel_rfl) (fun x => bhash_eq BIG Q_bbytes.F Q_sum.F x.1 x.2.1)
def Q_lbetter : Callee := { ps := ps_lbetter, rs := rs_lbetter, F := fun x => lbetter BIG x.1 x.2.1 }
theorem ct_lbetter : Contract Tryz.prog 84 Q_lbetter := ct_of (cs := ([] : List (Nat × Callee))) (sl := (E_lbetter).slots) tab_ok tab_deep trivial mixed BIG Tryz.func84 (by kernel_rfl) (fun x => lbetter_eq BIG x.1 x.2.1)
def Q_ladd : Callee := { ps := ps_ladd, rs := rs_ladd, F := fun x => ladd BIG Q_cturn.F Q_has.F Q_ltwin.F Q_bcheck.F Q_bhash.F Q_lbetter.F x.1 x.2.1 }
theorem ct_ladd : Contract Tryz.prog 26 Q_ladd := ct_of (cs := ([(19, Q_cturn), (80, Q_has), (81, Q_ltwin), (82, Q_bcheck), (83, Q_bhash), (84, Q_lbetter)] : List (Nat × Callee))) (sl := (E_ladd Q_cturn.F Q_has.F Q_ltwin.F Q_bcheck.F Q_bhash.F Q_lbetter.F).slots) tab_ok tab_deep ⟨⟨ct_cturn, rfl, by decide⟩, ⟨ct_has, rfl, by decide⟩, ⟨ct_ltwin, rfl, by decide⟩, ⟨ct_bcheck, rfl, by decide⟩, ⟨ct_bhash, rfl, by decide⟩, ⟨ct_lbetter, rfl, by decide⟩, trivial⟩ mixed BIG Tryz.func26 (by kernel_rfl) (fun x => ladd_eq BIG Q_cturn.F Q_has.F Q_ltwin.F Q_bcheck.F Q_bhash.F Q_lbetter.F x.1 x.2.1)
def Q_cnew : Callee := { ps := ps_cnew, rs := rs_cnew, F := fun x => cnew BIG Q_ctwin.F Q_pcheck.F Q_pat.F x.1 }
theorem ct_cnew : Contract Tryz.prog 55 Q_cnew := ct_of (cs := ([(65, Q_ctwin), (69, Q_pcheck), (72, Q_pat)] : List (Nat × Callee))) (sl := (E_cnew Q_ctwin.F Q_pcheck.F Q_pat.F).slots) tab_ok tab_deep ⟨⟨ct_ctwin, rfl, by decide⟩, ⟨ct_pcheck, rfl, by decide⟩, ⟨ct_pat, rfl, by decide⟩, trivial⟩ mixed BIG Tryz.func55 (by kernel_rfl) (fun x => cnew_eq BIG Q_ctwin.F Q_pcheck.F Q_pat.F x.1)
def Q_lnew : Callee := { ps := ps_lnew, rs := rs_lnew, F := fun x => lnew BIG Q_cnew.F x.1 }
theorem ct_lnew : Contract Tryz.prog 38 Q_lnew := ct_of (cs := ([(55, Q_cnew)] : List (Nat × Callee))) (sl := (E_lnew Q_cnew.F).slots) tab_ok tab_deep ⟨⟨ct_cnew, rfl, by decide⟩, trivial⟩ mixed BIG Tryz.func38 (by kernel_rfl) (fun x => lnew_eq BIG Q_cnew.F x.1)
def Q_fnew : Callee := { ps := ps_fnew, rs := rs_fnew, F := fun x => fnew BIG x.1 }
theorem ct_fnew : Contract Tryz.prog 47 Q_fnew := ct_of (cs := ([] : List (Nat × Callee))) (sl := (E_fnew).slots) tab_ok tab_deep trivial mixed BIG Tryz.func47 (by kernel_rfl) (fun x => fnew_eq BIG x.1)
def Q_lblock : Callee := { ps := ps_lblock, rs := rs_lblock, F := fun x => lblock BIG Q_has.F Q_ltwin.F x.1 x.2.1 }
theorem ct_lblock : Contract Tryz.prog 23 Q_lblock := ct_of (cs := ([(80, Q_has), (81, Q_ltwin)] : List (Nat × Callee))) (sl := (E_lblock Q_has.F Q_ltwin.F).slots) tab_ok tab_deep ⟨⟨ct_has, rfl, by decide⟩, ⟨ct_ltwin, rfl, by decide⟩, trivial⟩ mixed BIG Tryz.func23 (by kernel_rfl) (fun x => lblock_eq BIG Q_has.F Q_ltwin.F x.1 x.2.1)
def Q_reverseI : Callee := { ps := ps_reverseI, rs := rs_reverseI, F := fun x => reverseI BIG x.1 }
theorem ct_reverseI : Contract Tryz.prog 92 Q_reverseI := ct_of (cs := ([] : List (Nat × Callee))) (sl := (E_reverseI).slots) tab_ok tab_deep trivial mixed BIG Tryz.func92 (by kernel_rfl) (fun x => reverseI_eq BIG x.1)
def Q_lchain : Callee := { ps := ps_lchain, rs := rs_lchain, F := fun x => lchain BIG Q_has.F Q_reverseI.F x.1 x.2.1 }
theorem ct_lchain : Contract Tryz.prog 31 Q_lchain := ct_of (cs := ([(80, Q_has), (92, Q_reverseI)] : List (Nat × Callee))) (sl := (E_lchain Q_has.F Q_reverseI.F).slots) tab_ok tab_deep ⟨⟨ct_has, rfl, by decide⟩, ⟨ct_reverseI, rfl, by decide⟩, trivial⟩ mixed BIG Tryz.func31 (by kernel_rfl) (fun x => lchain_eq BIG Q_has.F Q_reverseI.F x.1 x.2.1)
def Q_lheight : Callee := { ps := ps_lheight, rs := rs_lheight, F := fun x => lheight BIG Q_has.F x.1 x.2.1 }
theorem ct_lheight : Contract Tryz.prog 93 Q_lheight := ct_of (cs := ([(80, Q_has)] : List (Nat × Callee))) (sl := (E_lheight Q_has.F).slots) tab_ok tab_deep ⟨⟨ct_has, rfl, by decide⟩, trivial⟩ mixed BIG Tryz.func93 (by kernel_rfl) (fun x => lheight_eq BIG Q_has.F x.1 x.2.1)
def Q_lcommon : Callee := { ps := ps_lcommon, rs := rs_lcommon, F := fun x => lcommon BIG Q_has.F Q_lheight.F x.1 x.2.1 x.2.2.1 }
theorem ct_lcommon : Contract Tryz.prog 35 Q_lcommon := ct_of (cs := ([(80, Q_has), (93, Q_lheight)] : List (Nat × Callee))) (sl := (E_lcommon Q_has.F Q_lheight.F).slots) tab_ok tab_deep ⟨⟨ct_has, rfl, by decide⟩, ⟨ct_lheight, rfl, by decide⟩, trivial⟩ mixed BIG Tryz.func35 (by kernel_rfl) (fun x => lcommon_eq BIG Q_has.F Q_lheight.F x.1 x.2.1 x.2.2.1)
def Q_indexI : Callee := { ps := ps_indexI, rs := rs_indexI, F := fun x => indexI BIG x.1 x.2.1 }
theorem ct_indexI : Contract Tryz.prog 99 Q_indexI := ct_of (cs := ([] : List (Nat × Callee))) (sl := (E_indexI).slots) tab_ok tab_deep trivial mixed BIG Tryz.func99 (by kernel_rfl) (fun x => indexI_eq BIG x.1 x.2.1)
def Q_containsI : Callee := { ps := ps_containsI, rs := rs_containsI, F := fun x => containsI BIG Q_indexI.F x.1 x.2.1 }
theorem ct_containsI : Contract Tryz.prog 98 Q_containsI := ct_of (cs := ([(99, Q_indexI)] : List (Nat × Callee))) (sl := (E_containsI Q_indexI.F).slots) tab_ok tab_deep ⟨⟨ct_indexI, rfl, by decide⟩, trivial⟩ mixed BIG Tryz.func98 (by kernel_rfl) (fun x => containsI_eq BIG Q_indexI.F x.1 x.2.1)
def Q_fcheck : Callee := { ps := ps_fcheck, rs := rs_fcheck, F := fun x => fcheck BIG Q_lchain.F Q_containsI.F x.1 x.2.1 }
theorem ct_fcheck : Contract Tryz.prog 49 Q_fcheck := ct_of (cs := ([(31, Q_lchain), (98, Q_containsI)] : List (Nat × Callee))) (sl := (E_fcheck Q_lchain.F Q_containsI.F).slots) tab_ok tab_deep ⟨⟨ct_lchain, rfl, by decide⟩, ⟨ct_containsI, rfl, by decide⟩, trivial⟩ mixed BIG Tryz.func49 (by kernel_rfl) (fun x => fcheck_eq BIG Q_lchain.F Q_containsI.F x.1 x.2.1)
def Q_fsee : Callee := { ps := ps_fsee, rs := rs_fsee, F := fun x => fsee BIG Q_lblock.F Q_lchain.F Q_lcommon.F Q_fcheck.F Q_containsI.F Q_indexI.F Q_cloneI.F x.1 x.2.1 x.2.2.1 }
theorem ct_fsee : Contract Tryz.prog 51 Q_fsee := ct_of (cs := ([(23, Q_lblock), (31, Q_lchain), (35, Q_lcommon), (49, Q_fcheck), (98, Q_containsI), (99, Q_indexI), (100, Q_cloneI)] : List (Nat × Callee))) (sl := (E_fsee Q_lblock.F Q_lchain.F Q_lcommon.F Q_fcheck.F Q_containsI.F Q_indexI.F Q_cloneI.F).slots) tab_ok tab_deep ⟨⟨ct_lblock, rfl, by decide⟩, ⟨ct_lchain, rfl, by decide⟩, ⟨ct_lcommon, rfl, by decide⟩, ⟨ct_fcheck, rfl, by decide⟩, ⟨ct_containsI, rfl, by decide⟩, ⟨ct_indexI, rfl, by decide⟩, ⟨ct_cloneI, rfl, by decide⟩, trivial⟩ mixed BIG Tryz.func51 (by kernel_rfl) (fun x => fsee_eq BIG Q_lblock.F Q_lchain.F Q_lcommon.F Q_fcheck.F Q_containsI.F Q_indexI.F Q_cloneI.F x.1 x.2.1 x.2.2.1)
def Q_kints : Callee := { ps := ps_kints, rs := rs_kints, F := fun x => kints BIG x.1 x.2.1 }
theorem ct_kints : Contract Tryz.prog 32 Q_kints := ct_of (cs := ([] : List (Nat × Callee))) (sl := (E_kints).slots) tab_ok tab_deep trivial mixed BIG Tryz.func32 (by kernel_rfl) (fun x => kints_eq BIG x.1 x.2.1)
def Q_wakes18 : Callee := { ps := ps_wakes18, rs := rs_wakes18, F := fun x => wakes18 BIG Q_ladd.F Q_kints.F Q_lnew.F Q_fnew.F Q_fsee.F  }
theorem ct_wakes18 : Contract Tryz.prog 53 Q_wakes18 := ct_of (cs := ([(26, Q_ladd), (32, Q_kints), (38, Q_lnew), (47, Q_fnew), (51, Q_fsee)] : List (Nat × Callee))) (sl := (E_wakes18 Q_ladd.F Q_kints.F Q_lnew.F Q_fnew.F Q_fsee.F).slots) tab_ok tab_deep ⟨⟨ct_ladd, rfl, by decide⟩, ⟨ct_kints, rfl, by decide⟩, ⟨ct_lnew, rfl, by decide⟩, ⟨ct_fnew, rfl, by decide⟩, ⟨ct_fsee, rfl, by decide⟩, trivial⟩ mixed BIG Tryz.func53 (by kernel_rfl) (fun x => wakes18_eq BIG Q_ladd.F Q_kints.F Q_lnew.F Q_fnew.F Q_fsee.F )
def Q_feedOne : Callee := { ps := ps_feedOne, rs := rs_feedOne, F := fun x => feedOne BIG Q_ladd.F Q_lnew.F Q_fnew.F Q_fsee.F Q_wakes18.F x.1 x.2.1 x.2.2.1 }
theorem ct_feedOne : Contract Tryz.prog 13 Q_feedOne := ct_of (cs := ([(26, Q_ladd), (38, Q_lnew), (47, Q_fnew), (51, Q_fsee), (53, Q_wakes18)] : List (Nat × Callee))) (sl := (E_feedOne Q_ladd.F Q_lnew.F Q_fnew.F Q_fsee.F Q_wakes18.F).slots) tab_ok tab_deep ⟨⟨ct_ladd, rfl, by decide⟩, ⟨ct_lnew, rfl, by decide⟩, ⟨ct_fnew, rfl, by decide⟩, ⟨ct_fsee, rfl, by decide⟩, ⟨ct_wakes18, rfl, by decide⟩, trivial⟩ mixed BIG Tryz.func13 (by kernel_rfl) (fun x => feedOne_eq BIG Q_ladd.F Q_lnew.F Q_fnew.F Q_fsee.F Q_wakes18.F x.1 x.2.1 x.2.2.1)
def Q_kfeed : Callee := { ps := ps_kfeed, rs := rs_kfeed, F := fun x => kfeed BIG x.1 x.2.1 }
theorem ct_kfeed : Contract Tryz.prog 48 Q_kfeed := ct_of (cs := ([] : List (Nat × Callee))) (sl := (E_kfeed).slots) tab_ok tab_deep trivial mixed BIG Tryz.func48 (by kernel_rfl) (fun x => kfeed_eq BIG x.1 x.2.1)
def Q_feedLeaps : Callee := { ps := ps_feedLeaps, rs := rs_feedLeaps, F := fun x => feedLeaps BIG Q_ladd.F Q_kints.F Q_lnew.F Q_fnew.F Q_kfeed.F Q_fsee.F Q_wakes18.F x.1 x.2.1 x.2.2.1 }
theorem ct_feedLeaps : Contract Tryz.prog 14 Q_feedLeaps := ct_of (cs := ([(26, Q_ladd), (32, Q_kints), (38, Q_lnew), (47, Q_fnew), (48, Q_kfeed), (51, Q_fsee), (53, Q_wakes18)] : List (Nat × Callee))) (sl := (E_feedLeaps Q_ladd.F Q_kints.F Q_lnew.F Q_fnew.F Q_kfeed.F Q_fsee.F Q_wakes18.F).slots) tab_ok tab_deep ⟨⟨ct_ladd, rfl, by decide⟩, ⟨ct_kints, rfl, by decide⟩, ⟨ct_lnew, rfl, by decide⟩, ⟨ct_fnew, rfl, by decide⟩, ⟨ct_kfeed, rfl, by decide⟩, ⟨ct_fsee, rfl, by decide⟩, ⟨ct_wakes18, rfl, by decide⟩, trivial⟩ mixed BIG Tryz.func14 (by kernel_rfl) (fun x => feedLeaps_eq BIG Q_ladd.F Q_kints.F Q_lnew.F Q_fnew.F Q_kfeed.F Q_fsee.F Q_wakes18.F x.1 x.2.1 x.2.2.1)
end Go.Eng
