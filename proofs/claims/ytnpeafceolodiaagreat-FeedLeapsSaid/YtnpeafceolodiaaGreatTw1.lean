/- Twins of functions, printed by wip/tools/gen.py. -/
import Derived.Test.YtnpeafceolodiaaGreatTwT
namespace Go.Eng
open Go.Proofs
set_option linter.unusedVariables false
set_option maxRecDepth 100000
def ps_cloneI : List PK := [.val (.sl .ro (.int .i64))]
def rs_cloneI : List RK := [.val (.sl .own (.int .i64))]
def ps_cloneDealer : List PK := [.val (.sl .ro (.prod (.int .i64) (.prod (.prod .bool (.prod (.arr 4 .u64) (.prod (.arr 4 .u64) .unit))) (.prod .str (.prod (.int .i64) (.prod .bool (.prod (.sl .ro (.arr 32 .u8)) (.prod (.sl .ro (.prod .bool (.prod (.arr 4 .u64) (.prod (.arr 4 .u64) .unit)))) (.prod .bool (.prod .bool (.prod (.prod .bool (.prod (.arr 4 .u64) (.prod (.arr 4 .u64) .unit))) .unit)))))))))))]
def rs_cloneDealer : List RK := [.val (.sl .ownx (.prod (.int .i64) (.prod (.prod .bool (.prod (.arr 4 .u64) (.prod (.arr 4 .u64) .unit))) (.prod .str (.prod (.int .i64) (.prod .bool (.prod (.sl .ro (.arr 32 .u8)) (.prod (.sl .ro (.prod .bool (.prod (.arr 4 .u64) (.prod (.arr 4 .u64) .unit)))) (.prod .bool (.prod .bool (.prod (.prod .bool (.prod (.arr 4 .u64) (.prod (.arr 4 .u64) .unit))) .unit)))))))))))]
def ps_cloneSeal : List PK := [.val (.sl .ro (.arr 32 .u8))]
def rs_cloneSeal : List RK := [.val (.sl .own (.arr 32 .u8))]
def ps_clonePoint : List PK := [.val (.sl .ro (.prod .bool (.prod (.arr 4 .u64) (.prod (.arr 4 .u64) .unit))))]
def rs_clonePoint : List RK := [.val (.sl .own (.prod .bool (.prod (.arr 4 .u64) (.prod (.arr 4 .u64) .unit))))]
def ps_ctwin : List PK := [.val (.prod (.prod (.int .i64) (.prod (.int .i64) (.prod (.arr 4 .i64) (.prod (.sl .ro (.int .i64)) .unit)))) (.prod (.int .i64) (.prod (.int .i64) (.prod (.sl .ro (.prod (.int .i64) (.prod (.prod .bool (.prod (.arr 4 .u64) (.prod (.arr 4 .u64) .unit))) (.prod .str (.prod (.int .i64) (.prod .bool (.prod (.sl .ro (.arr 32 .u8)) (.prod (.sl .ro (.prod .bool (.prod (.arr 4 .u64) (.prod (.arr 4 .u64) .unit)))) (.prod .bool (.prod .bool (.prod (.prod .bool (.prod (.arr 4 .u64) (.prod (.arr 4 .u64) .unit))) .unit))))))))))) (.prod (.sl .ro (.int .i64)) (.prod (.int .i64) (.prod (.prod .bool (.prod (.arr 4 .u64) (.prod (.arr 4 .u64) .unit))) .unit)))))))]
def rs_ctwin : List RK := [.val (.prod (.prod (.int .i64) (.prod (.int .i64) (.prod (.arr 4 .i64) (.prod (.sl .ro (.int .i64)) .unit)))) (.prod (.int .i64) (.prod (.int .i64) (.prod (.sl .ro (.prod (.int .i64) (.prod (.prod .bool (.prod (.arr 4 .u64) (.prod (.arr 4 .u64) .unit))) (.prod .str (.prod (.int .i64) (.prod .bool (.prod (.sl .ro (.arr 32 .u8)) (.prod (.sl .ro (.prod .bool (.prod (.arr 4 .u64) (.prod (.arr 4 .u64) .unit)))) (.prod .bool (.prod .bool (.prod (.prod .bool (.prod (.arr 4 .u64) (.prod (.arr 4 .u64) .unit))) .unit))))))))))) (.prod (.sl .ro (.int .i64)) (.prod (.int .i64) (.prod (.prod .bool (.prod (.arr 4 .u64) (.prod (.arr 4 .u64) .unit))) .unit)))))))]
def ps_pcheck : List PK := [.val (.prod (.int .i64) (.prod (.int .i64) (.prod (.arr 4 .i64) (.prod (.sl .ro (.int .i64)) .unit))))]
def rs_pcheck : List RK := [.val (.int .i64)]
def ps_pat : List PK := [.val (.prod (.int .i64) (.prod (.int .i64) (.prod (.arr 4 .i64) (.prod (.sl .ro (.int .i64)) .unit)))), .val (.int .i64)]
def rs_pat : List RK := [.val (.int .i64)]
def ps_pbegins : List PK := [.val (.prod (.int .i64) (.prod (.int .i64) (.prod (.arr 4 .i64) (.prod (.sl .ro (.int .i64)) .unit)))), .val (.int .i64)]
def rs_pbegins : List RK := [.val (.int .i64), .val .bool]
def ps_cover : List PK := [.val (.prod (.prod (.int .i64) (.prod (.int .i64) (.prod (.arr 4 .i64) (.prod (.sl .ro (.int .i64)) .unit)))) (.prod (.int .i64) (.prod (.int .i64) (.prod (.sl .ro (.prod (.int .i64) (.prod (.prod .bool (.prod (.arr 4 .u64) (.prod (.arr 4 .u64) .unit))) (.prod .str (.prod (.int .i64) (.prod .bool (.prod (.sl .ro (.arr 32 .u8)) (.prod (.sl .ro (.prod .bool (.prod (.arr 4 .u64) (.prod (.arr 4 .u64) .unit)))) (.prod .bool (.prod .bool (.prod (.prod .bool (.prod (.arr 4 .u64) (.prod (.arr 4 .u64) .unit))) .unit))))))))))) (.prod (.sl .ro (.int .i64)) (.prod (.int .i64) (.prod (.prod .bool (.prod (.arr 4 .u64) (.prod (.arr 4 .u64) .unit))) .unit)))))))]
def rs_cover : List RK := [.val .bool]
def ps_cturn : List PK := [.val (.prod (.prod (.int .i64) (.prod (.int .i64) (.prod (.arr 4 .i64) (.prod (.sl .ro (.int .i64)) .unit)))) (.prod (.int .i64) (.prod (.int .i64) (.prod (.sl .ro (.prod (.int .i64) (.prod (.prod .bool (.prod (.arr 4 .u64) (.prod (.arr 4 .u64) .unit))) (.prod .str (.prod (.int .i64) (.prod .bool (.prod (.sl .ro (.arr 32 .u8)) (.prod (.sl .ro (.prod .bool (.prod (.arr 4 .u64) (.prod (.arr 4 .u64) .unit)))) (.prod .bool (.prod .bool (.prod (.prod .bool (.prod (.arr 4 .u64) (.prod (.arr 4 .u64) .unit))) .unit))))))))))) (.prod (.sl .ro (.int .i64)) (.prod (.int .i64) (.prod (.prod .bool (.prod (.arr 4 .u64) (.prod (.arr 4 .u64) .unit))) .unit)))))))]
def rs_cturn : List RK := [.val (.prod (.prod (.int .i64) (.prod (.int .i64) (.prod (.arr 4 .i64) (.prod (.sl .ro (.int .i64)) .unit)))) (.prod (.int .i64) (.prod (.int .i64) (.prod (.sl .ro (.prod (.int .i64) (.prod (.prod .bool (.prod (.arr 4 .u64) (.prod (.arr 4 .u64) .unit))) (.prod .str (.prod (.int .i64) (.prod .bool (.prod (.sl .ro (.arr 32 .u8)) (.prod (.sl .ro (.prod .bool (.prod (.arr 4 .u64) (.prod (.arr 4 .u64) .unit)))) (.prod .bool (.prod .bool (.prod (.prod .bool (.prod (.arr 4 .u64) (.prod (.arr 4 .u64) .unit))) .unit))))))))))) (.prod (.sl .ro (.int .i64)) (.prod (.int .i64) (.prod (.prod .bool (.prod (.arr 4 .u64) (.prod (.arr 4 .u64) .unit))) .unit)))))))]
def ps_has : List PK := [.rptr (.prod (.prod (.prod (.int .i64) (.prod (.int .i64) (.prod (.arr 4 .i64) (.prod (.sl .ro (.int .i64)) .unit)))) (.prod (.int .i64) (.prod (.int .i64) (.prod (.sl .ro (.prod (.int .i64) (.prod (.prod .bool (.prod (.arr 4 .u64) (.prod (.arr 4 .u64) .unit))) (.prod .str (.prod (.int .i64) (.prod .bool (.prod (.sl .ro (.arr 32 .u8)) (.prod (.sl .ro (.prod .bool (.prod (.arr 4 .u64) (.prod (.arr 4 .u64) .unit)))) (.prod .bool (.prod .bool (.prod (.prod .bool (.prod (.arr 4 .u64) (.prod (.arr 4 .u64) .unit))) .unit))))))))))) (.prod (.sl .ro (.int .i64)) (.prod (.int .i64) (.prod (.prod .bool (.prod (.arr 4 .u64) (.prod (.arr 4 .u64) .unit))) .unit))))))) (.prod (.sl .ro (.prod (.prod (.int .i64) (.prod (.int .i64) (.prod (.int .i64) (.prod (.sl .ro (.prod (.int .i64) (.prod (.sl .ro (.int .u8)) .unit))) .unit)))) (.prod (.arr 32 .u8) (.prod (.prod (.prod (.int .i64) (.prod (.int .i64) (.prod (.arr 4 .i64) (.prod (.sl .ro (.int .i64)) .unit)))) (.prod (.int .i64) (.prod (.int .i64) (.prod (.sl .ro (.prod (.int .i64) (.prod (.prod .bool (.prod (.arr 4 .u64) (.prod (.arr 4 .u64) .unit))) (.prod .str (.prod (.int .i64) (.prod .bool (.prod (.sl .ro (.arr 32 .u8)) (.prod (.sl .ro (.prod .bool (.prod (.arr 4 .u64) (.prod (.arr 4 .u64) .unit)))) (.prod .bool (.prod .bool (.prod (.prod .bool (.prod (.arr 4 .u64) (.prod (.arr 4 .u64) .unit))) .unit))))))))))) (.prod (.sl .ro (.int .i64)) (.prod (.int .i64) (.prod (.prod .bool (.prod (.arr 4 .u64) (.prod (.arr 4 .u64) .unit))) .unit))))))) (.prod (.sl .ro (.int .i64)) .unit))))) (.prod (.int .i64) .unit))), .val (.int .i64)]
def rs_has : List RK := [.val .bool]
def ps_cloneTx : List PK := [.val (.sl .ro (.prod (.int .i64) (.prod (.sl .ro (.int .u8)) .unit)))]
def rs_cloneTx : List RK := [.val (.sl .ownx (.prod (.int .i64) (.prod (.sl .ro (.int .u8)) .unit)))]
def ps_cloneB : List PK := [.val (.sl .ro (.int .u8))]
def rs_cloneB : List RK := [.val (.sl .own (.int .u8))]
def ps_ltwin : List PK := [.val (.prod (.int .i64) (.prod (.int .i64) (.prod (.int .i64) (.prod (.sl .ro (.prod (.int .i64) (.prod (.sl .ro (.int .u8)) .unit))) .unit))))]
def rs_ltwin : List RK := [.val (.prod (.int .i64) (.prod (.int .i64) (.prod (.int .i64) (.prod (.sl .ro (.prod (.int .i64) (.prod (.sl .ro (.int .u8)) .unit))) .unit))))]
def ps_bcheck : List PK := [.val (.prod (.int .i64) (.prod (.int .i64) (.prod (.int .i64) (.prod (.sl .ro (.prod (.int .i64) (.prod (.sl .ro (.int .u8)) .unit))) .unit))))]
def rs_bcheck : List RK := [.val (.int .i64)]
def ps_room : List PK := [.val (.int .i64)]
def rs_room : List RK := [.val (.int .i64)]
def ps_put : List PK := [.val (.sl .ro (.int .u8)), .val (.int .i64), .val (.int .i64)]
def rs_put : List RK := [.val (.sl .own (.int .u8)), .val (.int .i64)]
def ps_putPart : List PK := [.val (.sl .ro (.int .u8)), .val (.sl .ro (.int .u8))]
def rs_putPart : List RK := [.val (.sl .own (.int .u8)), .val (.int .i64)]
def ps_bbytes : List PK := [.val (.arr 32 .u8), .val (.prod (.int .i64) (.prod (.int .i64) (.prod (.int .i64) (.prod (.sl .ro (.prod (.int .i64) (.prod (.sl .ro (.int .u8)) .unit))) .unit))))]
def rs_bbytes : List RK := [.val (.sl .own (.int .u8)), .val (.int .i64)]
def ps_rounds : List PK := []
def rs_rounds : List RK := [.val (.sl .own (.int .u32))]
def ps_padded : List PK := [.val (.sl .ro (.int .u8))]
def rs_padded : List RK := [.val (.sl .own (.int .u8))]
def ps_high : List PK := [.val (.sl .ro (.int .u8))]
def rs_high : List RK := [.val (.int .u64)]
def ps_rotl : List PK := [.val (.int .u32), .val (.int .i64)]
def rs_rotl : List RK := [.val (.int .u32)]
def ps_sum : List PK := [.val (.sl .ro (.int .u8))]
def rs_sum : List RK := [.val (.arr 32 .u8)]
def ps_bhash : List PK := [.val (.arr 32 .u8), .val (.prod (.int .i64) (.prod (.int .i64) (.prod (.int .i64) (.prod (.sl .ro (.prod (.int .i64) (.prod (.sl .ro (.int .u8)) .unit))) .unit))))]
def rs_bhash : List RK := [.val (.arr 32 .u8), .val (.int .i64)]
def ps_lbetter : List PK := [.rptr (.prod (.prod (.prod (.int .i64) (.prod (.int .i64) (.prod (.arr 4 .i64) (.prod (.sl .ro (.int .i64)) .unit)))) (.prod (.int .i64) (.prod (.int .i64) (.prod (.sl .ro (.prod (.int .i64) (.prod (.prod .bool (.prod (.arr 4 .u64) (.prod (.arr 4 .u64) .unit))) (.prod .str (.prod (.int .i64) (.prod .bool (.prod (.sl .ro (.arr 32 .u8)) (.prod (.sl .ro (.prod .bool (.prod (.arr 4 .u64) (.prod (.arr 4 .u64) .unit)))) (.prod .bool (.prod .bool (.prod (.prod .bool (.prod (.arr 4 .u64) (.prod (.arr 4 .u64) .unit))) .unit))))))))))) (.prod (.sl .ro (.int .i64)) (.prod (.int .i64) (.prod (.prod .bool (.prod (.arr 4 .u64) (.prod (.arr 4 .u64) .unit))) .unit))))))) (.prod (.sl .ro (.prod (.prod (.int .i64) (.prod (.int .i64) (.prod (.int .i64) (.prod (.sl .ro (.prod (.int .i64) (.prod (.sl .ro (.int .u8)) .unit))) .unit)))) (.prod (.arr 32 .u8) (.prod (.prod (.prod (.int .i64) (.prod (.int .i64) (.prod (.arr 4 .i64) (.prod (.sl .ro (.int .i64)) .unit)))) (.prod (.int .i64) (.prod (.int .i64) (.prod (.sl .ro (.prod (.int .i64) (.prod (.prod .bool (.prod (.arr 4 .u64) (.prod (.arr 4 .u64) .unit))) (.prod .str (.prod (.int .i64) (.prod .bool (.prod (.sl .ro (.arr 32 .u8)) (.prod (.sl .ro (.prod .bool (.prod (.arr 4 .u64) (.prod (.arr 4 .u64) .unit)))) (.prod .bool (.prod .bool (.prod (.prod .bool (.prod (.arr 4 .u64) (.prod (.arr 4 .u64) .unit))) .unit))))))))))) (.prod (.sl .ro (.int .i64)) (.prod (.int .i64) (.prod (.prod .bool (.prod (.arr 4 .u64) (.prod (.arr 4 .u64) .unit))) .unit))))))) (.prod (.sl .ro (.int .i64)) .unit))))) (.prod (.int .i64) .unit))), .val (.int .i64)]
def rs_lbetter : List RK := [.val .bool]
def ps_ladd : List PK := [.ptr (.prod (.prod (.prod (.int .i64) (.prod (.int .i64) (.prod (.arr 4 .i64) (.prod (.sl .ro (.int .i64)) .unit)))) (.prod (.int .i64) (.prod (.int .i64) (.prod (.sl .ro (.prod (.int .i64) (.prod (.prod .bool (.prod (.arr 4 .u64) (.prod (.arr 4 .u64) .unit))) (.prod .str (.prod (.int .i64) (.prod .bool (.prod (.sl .ro (.arr 32 .u8)) (.prod (.sl .ro (.prod .bool (.prod (.arr 4 .u64) (.prod (.arr 4 .u64) .unit)))) (.prod .bool (.prod .bool (.prod (.prod .bool (.prod (.arr 4 .u64) (.prod (.arr 4 .u64) .unit))) .unit))))))))))) (.prod (.sl .ro (.int .i64)) (.prod (.int .i64) (.prod (.prod .bool (.prod (.arr 4 .u64) (.prod (.arr 4 .u64) .unit))) .unit))))))) (.prod (.sl .ownx (.prod (.prod (.int .i64) (.prod (.int .i64) (.prod (.int .i64) (.prod (.sl .ro (.prod (.int .i64) (.prod (.sl .ro (.int .u8)) .unit))) .unit)))) (.prod (.arr 32 .u8) (.prod (.prod (.prod (.int .i64) (.prod (.int .i64) (.prod (.arr 4 .i64) (.prod (.sl .ro (.int .i64)) .unit)))) (.prod (.int .i64) (.prod (.int .i64) (.prod (.sl .ro (.prod (.int .i64) (.prod (.prod .bool (.prod (.arr 4 .u64) (.prod (.arr 4 .u64) .unit))) (.prod .str (.prod (.int .i64) (.prod .bool (.prod (.sl .ro (.arr 32 .u8)) (.prod (.sl .ro (.prod .bool (.prod (.arr 4 .u64) (.prod (.arr 4 .u64) .unit)))) (.prod .bool (.prod .bool (.prod (.prod .bool (.prod (.arr 4 .u64) (.prod (.arr 4 .u64) .unit))) .unit))))))))))) (.prod (.sl .ro (.int .i64)) (.prod (.int .i64) (.prod (.prod .bool (.prod (.arr 4 .u64) (.prod (.arr 4 .u64) .unit))) .unit))))))) (.prod (.sl .ro (.int .i64)) .unit))))) (.prod (.int .i64) .unit))), .val (.prod (.int .i64) (.prod (.int .i64) (.prod (.int .i64) (.prod (.sl .ro (.prod (.int .i64) (.prod (.sl .ro (.int .u8)) .unit))) .unit))))]
def rs_ladd : List RK := [.val (.int .i64), .val (.int .i64)]
def ps_cnew : List PK := [.val (.prod (.int .i64) (.prod (.int .i64) (.prod (.arr 4 .i64) (.prod (.sl .ro (.int .i64)) .unit))))]
def rs_cnew : List RK := [.val (.prod (.prod (.int .i64) (.prod (.int .i64) (.prod (.arr 4 .i64) (.prod (.sl .ro (.int .i64)) .unit)))) (.prod (.int .i64) (.prod (.int .i64) (.prod (.sl .ro (.prod (.int .i64) (.prod (.prod .bool (.prod (.arr 4 .u64) (.prod (.arr 4 .u64) .unit))) (.prod .str (.prod (.int .i64) (.prod .bool (.prod (.sl .ro (.arr 32 .u8)) (.prod (.sl .ro (.prod .bool (.prod (.arr 4 .u64) (.prod (.arr 4 .u64) .unit)))) (.prod .bool (.prod .bool (.prod (.prod .bool (.prod (.arr 4 .u64) (.prod (.arr 4 .u64) .unit))) .unit))))))))))) (.prod (.sl .ro (.int .i64)) (.prod (.int .i64) (.prod (.prod .bool (.prod (.arr 4 .u64) (.prod (.arr 4 .u64) .unit))) .unit))))))), .val (.int .i64)]
def ps_lnew : List PK := [.val (.prod (.int .i64) (.prod (.int .i64) (.prod (.arr 4 .i64) (.prod (.sl .ro (.int .i64)) .unit))))]
def rs_lnew : List RK := [.box (.prod (.prod (.prod (.int .i64) (.prod (.int .i64) (.prod (.arr 4 .i64) (.prod (.sl .ro (.int .i64)) .unit)))) (.prod (.int .i64) (.prod (.int .i64) (.prod (.sl .ro (.prod (.int .i64) (.prod (.prod .bool (.prod (.arr 4 .u64) (.prod (.arr 4 .u64) .unit))) (.prod .str (.prod (.int .i64) (.prod .bool (.prod (.sl .ro (.arr 32 .u8)) (.prod (.sl .ro (.prod .bool (.prod (.arr 4 .u64) (.prod (.arr 4 .u64) .unit)))) (.prod .bool (.prod .bool (.prod (.prod .bool (.prod (.arr 4 .u64) (.prod (.arr 4 .u64) .unit))) .unit))))))))))) (.prod (.sl .ro (.int .i64)) (.prod (.int .i64) (.prod (.prod .bool (.prod (.arr 4 .u64) (.prod (.arr 4 .u64) .unit))) .unit))))))) (.prod (.sl .ownx (.prod (.prod (.int .i64) (.prod (.int .i64) (.prod (.int .i64) (.prod (.sl .ro (.prod (.int .i64) (.prod (.sl .ro (.int .u8)) .unit))) .unit)))) (.prod (.arr 32 .u8) (.prod (.prod (.prod (.int .i64) (.prod (.int .i64) (.prod (.arr 4 .i64) (.prod (.sl .ro (.int .i64)) .unit)))) (.prod (.int .i64) (.prod (.int .i64) (.prod (.sl .ro (.prod (.int .i64) (.prod (.prod .bool (.prod (.arr 4 .u64) (.prod (.arr 4 .u64) .unit))) (.prod .str (.prod (.int .i64) (.prod .bool (.prod (.sl .ro (.arr 32 .u8)) (.prod (.sl .ro (.prod .bool (.prod (.arr 4 .u64) (.prod (.arr 4 .u64) .unit)))) (.prod .bool (.prod .bool (.prod (.prod .bool (.prod (.arr 4 .u64) (.prod (.arr 4 .u64) .unit))) .unit))))))))))) (.prod (.sl .ro (.int .i64)) (.prod (.int .i64) (.prod (.prod .bool (.prod (.arr 4 .u64) (.prod (.arr 4 .u64) .unit))) .unit))))))) (.prod (.sl .ro (.int .i64)) .unit))))) (.prod (.int .i64) .unit))), .val (.int .i64)]
def ps_fnew : List PK := [.val (.int .i64)]
def rs_fnew : List RK := [.val (.prod (.int .i64) (.prod (.int .i64) (.prod (.int .i64) (.prod .bool .unit)))), .val (.int .i64)]
def ps_lblock : List PK := [.rptr (.prod (.prod (.prod (.int .i64) (.prod (.int .i64) (.prod (.arr 4 .i64) (.prod (.sl .ro (.int .i64)) .unit)))) (.prod (.int .i64) (.prod (.int .i64) (.prod (.sl .ro (.prod (.int .i64) (.prod (.prod .bool (.prod (.arr 4 .u64) (.prod (.arr 4 .u64) .unit))) (.prod .str (.prod (.int .i64) (.prod .bool (.prod (.sl .ro (.arr 32 .u8)) (.prod (.sl .ro (.prod .bool (.prod (.arr 4 .u64) (.prod (.arr 4 .u64) .unit)))) (.prod .bool (.prod .bool (.prod (.prod .bool (.prod (.arr 4 .u64) (.prod (.arr 4 .u64) .unit))) .unit))))))))))) (.prod (.sl .ro (.int .i64)) (.prod (.int .i64) (.prod (.prod .bool (.prod (.arr 4 .u64) (.prod (.arr 4 .u64) .unit))) .unit))))))) (.prod (.sl .ro (.prod (.prod (.int .i64) (.prod (.int .i64) (.prod (.int .i64) (.prod (.sl .ro (.prod (.int .i64) (.prod (.sl .ro (.int .u8)) .unit))) .unit)))) (.prod (.arr 32 .u8) (.prod (.prod (.prod (.int .i64) (.prod (.int .i64) (.prod (.arr 4 .i64) (.prod (.sl .ro (.int .i64)) .unit)))) (.prod (.int .i64) (.prod (.int .i64) (.prod (.sl .ro (.prod (.int .i64) (.prod (.prod .bool (.prod (.arr 4 .u64) (.prod (.arr 4 .u64) .unit))) (.prod .str (.prod (.int .i64) (.prod .bool (.prod (.sl .ro (.arr 32 .u8)) (.prod (.sl .ro (.prod .bool (.prod (.arr 4 .u64) (.prod (.arr 4 .u64) .unit)))) (.prod .bool (.prod .bool (.prod (.prod .bool (.prod (.arr 4 .u64) (.prod (.arr 4 .u64) .unit))) .unit))))))))))) (.prod (.sl .ro (.int .i64)) (.prod (.int .i64) (.prod (.prod .bool (.prod (.arr 4 .u64) (.prod (.arr 4 .u64) .unit))) .unit))))))) (.prod (.sl .ro (.int .i64)) .unit))))) (.prod (.int .i64) .unit))), .val (.int .i64)]
def rs_lblock : List RK := [.drop, .val (.int .i64)]
def ps_reverseI : List PK := [.mut (.int .i64)]
def rs_reverseI : List RK := []
def ps_lchain : List PK := [.rptr (.prod (.prod (.prod (.int .i64) (.prod (.int .i64) (.prod (.arr 4 .i64) (.prod (.sl .ro (.int .i64)) .unit)))) (.prod (.int .i64) (.prod (.int .i64) (.prod (.sl .ro (.prod (.int .i64) (.prod (.prod .bool (.prod (.arr 4 .u64) (.prod (.arr 4 .u64) .unit))) (.prod .str (.prod (.int .i64) (.prod .bool (.prod (.sl .ro (.arr 32 .u8)) (.prod (.sl .ro (.prod .bool (.prod (.arr 4 .u64) (.prod (.arr 4 .u64) .unit)))) (.prod .bool (.prod .bool (.prod (.prod .bool (.prod (.arr 4 .u64) (.prod (.arr 4 .u64) .unit))) .unit))))))))))) (.prod (.sl .ro (.int .i64)) (.prod (.int .i64) (.prod (.prod .bool (.prod (.arr 4 .u64) (.prod (.arr 4 .u64) .unit))) .unit))))))) (.prod (.sl .ro (.prod (.prod (.int .i64) (.prod (.int .i64) (.prod (.int .i64) (.prod (.sl .ro (.prod (.int .i64) (.prod (.sl .ro (.int .u8)) .unit))) .unit)))) (.prod (.arr 32 .u8) (.prod (.prod (.prod (.int .i64) (.prod (.int .i64) (.prod (.arr 4 .i64) (.prod (.sl .ro (.int .i64)) .unit)))) (.prod (.int .i64) (.prod (.int .i64) (.prod (.sl .ro (.prod (.int .i64) (.prod (.prod .bool (.prod (.arr 4 .u64) (.prod (.arr 4 .u64) .unit))) (.prod .str (.prod (.int .i64) (.prod .bool (.prod (.sl .ro (.arr 32 .u8)) (.prod (.sl .ro (.prod .bool (.prod (.arr 4 .u64) (.prod (.arr 4 .u64) .unit)))) (.prod .bool (.prod .bool (.prod (.prod .bool (.prod (.arr 4 .u64) (.prod (.arr 4 .u64) .unit))) .unit))))))))))) (.prod (.sl .ro (.int .i64)) (.prod (.int .i64) (.prod (.prod .bool (.prod (.arr 4 .u64) (.prod (.arr 4 .u64) .unit))) .unit))))))) (.prod (.sl .ro (.int .i64)) .unit))))) (.prod (.int .i64) .unit))), .val (.int .i64)]
def rs_lchain : List RK := [.val (.sl .own (.int .i64)), .val (.int .i64)]
def ps_lheight : List PK := [.rptr (.prod (.prod (.prod (.int .i64) (.prod (.int .i64) (.prod (.arr 4 .i64) (.prod (.sl .ro (.int .i64)) .unit)))) (.prod (.int .i64) (.prod (.int .i64) (.prod (.sl .ro (.prod (.int .i64) (.prod (.prod .bool (.prod (.arr 4 .u64) (.prod (.arr 4 .u64) .unit))) (.prod .str (.prod (.int .i64) (.prod .bool (.prod (.sl .ro (.arr 32 .u8)) (.prod (.sl .ro (.prod .bool (.prod (.arr 4 .u64) (.prod (.arr 4 .u64) .unit)))) (.prod .bool (.prod .bool (.prod (.prod .bool (.prod (.arr 4 .u64) (.prod (.arr 4 .u64) .unit))) .unit))))))))))) (.prod (.sl .ro (.int .i64)) (.prod (.int .i64) (.prod (.prod .bool (.prod (.arr 4 .u64) (.prod (.arr 4 .u64) .unit))) .unit))))))) (.prod (.sl .ro (.prod (.prod (.int .i64) (.prod (.int .i64) (.prod (.int .i64) (.prod (.sl .ro (.prod (.int .i64) (.prod (.sl .ro (.int .u8)) .unit))) .unit)))) (.prod (.arr 32 .u8) (.prod (.prod (.prod (.int .i64) (.prod (.int .i64) (.prod (.arr 4 .i64) (.prod (.sl .ro (.int .i64)) .unit)))) (.prod (.int .i64) (.prod (.int .i64) (.prod (.sl .ro (.prod (.int .i64) (.prod (.prod .bool (.prod (.arr 4 .u64) (.prod (.arr 4 .u64) .unit))) (.prod .str (.prod (.int .i64) (.prod .bool (.prod (.sl .ro (.arr 32 .u8)) (.prod (.sl .ro (.prod .bool (.prod (.arr 4 .u64) (.prod (.arr 4 .u64) .unit)))) (.prod .bool (.prod .bool (.prod (.prod .bool (.prod (.arr 4 .u64) (.prod (.arr 4 .u64) .unit))) .unit))))))))))) (.prod (.sl .ro (.int .i64)) (.prod (.int .i64) (.prod (.prod .bool (.prod (.arr 4 .u64) (.prod (.arr 4 .u64) .unit))) .unit))))))) (.prod (.sl .ro (.int .i64)) .unit))))) (.prod (.int .i64) .unit))), .val (.int .i64)]
def rs_lheight : List RK := [.val (.int .i64)]
def ps_lcommon : List PK := [.rptr (.prod (.prod (.prod (.int .i64) (.prod (.int .i64) (.prod (.arr 4 .i64) (.prod (.sl .ro (.int .i64)) .unit)))) (.prod (.int .i64) (.prod (.int .i64) (.prod (.sl .ro (.prod (.int .i64) (.prod (.prod .bool (.prod (.arr 4 .u64) (.prod (.arr 4 .u64) .unit))) (.prod .str (.prod (.int .i64) (.prod .bool (.prod (.sl .ro (.arr 32 .u8)) (.prod (.sl .ro (.prod .bool (.prod (.arr 4 .u64) (.prod (.arr 4 .u64) .unit)))) (.prod .bool (.prod .bool (.prod (.prod .bool (.prod (.arr 4 .u64) (.prod (.arr 4 .u64) .unit))) .unit))))))))))) (.prod (.sl .ro (.int .i64)) (.prod (.int .i64) (.prod (.prod .bool (.prod (.arr 4 .u64) (.prod (.arr 4 .u64) .unit))) .unit))))))) (.prod (.sl .ro (.prod (.prod (.int .i64) (.prod (.int .i64) (.prod (.int .i64) (.prod (.sl .ro (.prod (.int .i64) (.prod (.sl .ro (.int .u8)) .unit))) .unit)))) (.prod (.arr 32 .u8) (.prod (.prod (.prod (.int .i64) (.prod (.int .i64) (.prod (.arr 4 .i64) (.prod (.sl .ro (.int .i64)) .unit)))) (.prod (.int .i64) (.prod (.int .i64) (.prod (.sl .ro (.prod (.int .i64) (.prod (.prod .bool (.prod (.arr 4 .u64) (.prod (.arr 4 .u64) .unit))) (.prod .str (.prod (.int .i64) (.prod .bool (.prod (.sl .ro (.arr 32 .u8)) (.prod (.sl .ro (.prod .bool (.prod (.arr 4 .u64) (.prod (.arr 4 .u64) .unit)))) (.prod .bool (.prod .bool (.prod (.prod .bool (.prod (.arr 4 .u64) (.prod (.arr 4 .u64) .unit))) .unit))))))))))) (.prod (.sl .ro (.int .i64)) (.prod (.int .i64) (.prod (.prod .bool (.prod (.arr 4 .u64) (.prod (.arr 4 .u64) .unit))) .unit))))))) (.prod (.sl .ro (.int .i64)) .unit))))) (.prod (.int .i64) .unit))), .val (.int .i64), .val (.int .i64)]
def rs_lcommon : List RK := [.val (.int .i64), .val (.int .i64)]
def ps_indexI : List PK := [.val (.sl .ro (.int .i64)), .val (.int .i64)]
def rs_indexI : List RK := [.val (.int .i64)]
def ps_containsI : List PK := [.val (.sl .ro (.int .i64)), .val (.int .i64)]
def rs_containsI : List RK := [.val .bool]
def ps_fcheck : List PK := [.rptr (.prod (.prod (.prod (.int .i64) (.prod (.int .i64) (.prod (.arr 4 .i64) (.prod (.sl .ro (.int .i64)) .unit)))) (.prod (.int .i64) (.prod (.int .i64) (.prod (.sl .ro (.prod (.int .i64) (.prod (.prod .bool (.prod (.arr 4 .u64) (.prod (.arr 4 .u64) .unit))) (.prod .str (.prod (.int .i64) (.prod .bool (.prod (.sl .ro (.arr 32 .u8)) (.prod (.sl .ro (.prod .bool (.prod (.arr 4 .u64) (.prod (.arr 4 .u64) .unit)))) (.prod .bool (.prod .bool (.prod (.prod .bool (.prod (.arr 4 .u64) (.prod (.arr 4 .u64) .unit))) .unit))))))))))) (.prod (.sl .ro (.int .i64)) (.prod (.int .i64) (.prod (.prod .bool (.prod (.arr 4 .u64) (.prod (.arr 4 .u64) .unit))) .unit))))))) (.prod (.sl .ro (.prod (.prod (.int .i64) (.prod (.int .i64) (.prod (.int .i64) (.prod (.sl .ro (.prod (.int .i64) (.prod (.sl .ro (.int .u8)) .unit))) .unit)))) (.prod (.arr 32 .u8) (.prod (.prod (.prod (.int .i64) (.prod (.int .i64) (.prod (.arr 4 .i64) (.prod (.sl .ro (.int .i64)) .unit)))) (.prod (.int .i64) (.prod (.int .i64) (.prod (.sl .ro (.prod (.int .i64) (.prod (.prod .bool (.prod (.arr 4 .u64) (.prod (.arr 4 .u64) .unit))) (.prod .str (.prod (.int .i64) (.prod .bool (.prod (.sl .ro (.arr 32 .u8)) (.prod (.sl .ro (.prod .bool (.prod (.arr 4 .u64) (.prod (.arr 4 .u64) .unit)))) (.prod .bool (.prod .bool (.prod (.prod .bool (.prod (.arr 4 .u64) (.prod (.arr 4 .u64) .unit))) .unit))))))))))) (.prod (.sl .ro (.int .i64)) (.prod (.int .i64) (.prod (.prod .bool (.prod (.arr 4 .u64) (.prod (.arr 4 .u64) .unit))) .unit))))))) (.prod (.sl .ro (.int .i64)) .unit))))) (.prod (.int .i64) .unit))), .val (.prod (.int .i64) (.prod (.int .i64) (.prod (.int .i64) (.prod .bool .unit))))]
def rs_fcheck : List RK := [.val (.int .i64)]
def ps_fsee : List PK := [.rptr (.prod (.prod (.prod (.int .i64) (.prod (.int .i64) (.prod (.arr 4 .i64) (.prod (.sl .ro (.int .i64)) .unit)))) (.prod (.int .i64) (.prod (.int .i64) (.prod (.sl .ro (.prod (.int .i64) (.prod (.prod .bool (.prod (.arr 4 .u64) (.prod (.arr 4 .u64) .unit))) (.prod .str (.prod (.int .i64) (.prod .bool (.prod (.sl .ro (.arr 32 .u8)) (.prod (.sl .ro (.prod .bool (.prod (.arr 4 .u64) (.prod (.arr 4 .u64) .unit)))) (.prod .bool (.prod .bool (.prod (.prod .bool (.prod (.arr 4 .u64) (.prod (.arr 4 .u64) .unit))) .unit))))))))))) (.prod (.sl .ro (.int .i64)) (.prod (.int .i64) (.prod (.prod .bool (.prod (.arr 4 .u64) (.prod (.arr 4 .u64) .unit))) .unit))))))) (.prod (.sl .ro (.prod (.prod (.int .i64) (.prod (.int .i64) (.prod (.int .i64) (.prod (.sl .ro (.prod (.int .i64) (.prod (.sl .ro (.int .u8)) .unit))) .unit)))) (.prod (.arr 32 .u8) (.prod (.prod (.prod (.int .i64) (.prod (.int .i64) (.prod (.arr 4 .i64) (.prod (.sl .ro (.int .i64)) .unit)))) (.prod (.int .i64) (.prod (.int .i64) (.prod (.sl .ro (.prod (.int .i64) (.prod (.prod .bool (.prod (.arr 4 .u64) (.prod (.arr 4 .u64) .unit))) (.prod .str (.prod (.int .i64) (.prod .bool (.prod (.sl .ro (.arr 32 .u8)) (.prod (.sl .ro (.prod .bool (.prod (.arr 4 .u64) (.prod (.arr 4 .u64) .unit)))) (.prod .bool (.prod .bool (.prod (.prod .bool (.prod (.arr 4 .u64) (.prod (.arr 4 .u64) .unit))) .unit))))))))))) (.prod (.sl .ro (.int .i64)) (.prod (.int .i64) (.prod (.prod .bool (.prod (.arr 4 .u64) (.prod (.arr 4 .u64) .unit))) .unit))))))) (.prod (.sl .ro (.int .i64)) .unit))))) (.prod (.int .i64) .unit))), .val (.prod (.int .i64) (.prod (.int .i64) (.prod (.int .i64) (.prod .bool .unit)))), .val (.int .i64)]
def rs_fsee : List RK := [.val (.prod (.int .i64) (.prod (.int .i64) (.prod (.int .i64) (.prod .bool .unit)))), .val (.sl .own (.int .i64)), .val (.int .i64)]
def ps_kints : List PK := [.val (.sl .ro (.int .i64)), .val (.sl .ro (.int .i64))]
def rs_kints : List RK := [.val .bool]
def ps_wakes18 : List PK := []
def rs_wakes18 : List RK := [.val .bool]
def ps_feedOne : List PK := [.val (.int .i64), .val (.int .i64), .val (.sl .ro (.int .i64))]
def rs_feedOne : List RK := [.val .bool]
def ps_kfeed : List PK := [.val (.prod (.int .i64) (.prod (.int .i64) (.prod (.int .i64) (.prod .bool .unit)))), .val (.prod (.int .i64) (.prod (.int .i64) (.prod (.int .i64) (.prod .bool .unit))))]
def rs_kfeed : List RK := [.val .bool]
def ps_feedLeaps : List PK := [.val (.int .i64), .val (.int .i64), .val (.sl .ro (.int .i64))]
def rs_feedLeaps : List RK := [.val .bool]

def E_ctwin (F_cloneI : (List Int × Unit) → Option ((Unit) × (List Int × Unit))) (F_cloneDealer : ((List P50) × Unit) → Option ((Unit) × ((List P50) × Unit))) (F_cloneSeal : (List (List Int) × Unit) → Option ((Unit) × (List (List Int) × Unit))) (F_clonePoint : ((List P33) × Unit) → Option ((Unit) × ((List P33) × Unit))) : Env :=
  { tab := lookT tabL, call := lookC [(100, { ps := ps_cloneI, rs := rs_cloneI, F := F_cloneI }), (123, { ps := ps_cloneDealer, rs := rs_cloneDealer, F := F_cloneDealer }), (124, { ps := ps_cloneSeal, rs := rs_cloneSeal, F := F_cloneSeal }), (125, { ps := ps_clonePoint, rs := rs_clonePoint, F := F_clonePoint })], nt := 0, pars := [],
    slots := fun b => match b with
    | 0 => [.fix 1 1 [], .fix 2 2 [], .tmp 21 (.int .i64), .tmp 22 (.int .i64), .obj 1 (.prod (.prod (.int .i64) (.prod (.int .i64) (.prod (.arr 4 .i64) (.prod (.sl .ro (.int .i64)) .unit)))) (.prod (.int .i64) (.prod (.int .i64) (.prod (.sl .ownx (.prod (.int .i64) (.prod (.prod .bool (.prod (.arr 4 .u64) (.prod (.arr 4 .u64) .unit))) (.prod .str (.prod (.int .i64) (.prod .bool (.prod (.sl .ro (.arr 32 .u8)) (.prod (.sl .ro (.prod .bool (.prod (.arr 4 .u64) (.prod (.arr 4 .u64) .unit)))) (.prod .bool (.prod .bool (.prod (.prod .bool (.prod (.arr 4 .u64) (.prod (.arr 4 .u64) .unit))) .unit))))))))))) (.prod (.sl .ro (.int .i64)) (.prod (.int .i64) (.prod (.prod .bool (.prod (.arr 4 .u64) (.prod (.arr 4 .u64) .unit))) .unit))))))), .obj 2 (.prod (.prod (.int .i64) (.prod (.int .i64) (.prod (.arr 4 .i64) (.prod (.sl .ro (.int .i64)) .unit)))) (.prod (.int .i64) (.prod (.int .i64) (.prod (.sl .ro (.prod (.int .i64) (.prod (.prod .bool (.prod (.arr 4 .u64) (.prod (.arr 4 .u64) .unit))) (.prod .str (.prod (.int .i64) (.prod .bool (.prod (.sl .ro (.arr 32 .u8)) (.prod (.sl .ro (.prod .bool (.prod (.arr 4 .u64) (.prod (.arr 4 .u64) .unit)))) (.prod .bool (.prod .bool (.prod (.prod .bool (.prod (.arr 4 .u64) (.prod (.arr 4 .u64) .unit))) .unit))))))))))) (.prod (.sl .ro (.int .i64)) (.prod (.int .i64) (.prod (.prod .bool (.prod (.arr 4 .u64) (.prod (.arr 4 .u64) .unit))) .unit)))))))]
    | _ => [] }
def ctwin_l0 (fuel : Nat) (F_cloneI : (((List Int) × Unit) → (Option (Unit × ((List Int) × Unit))))) (F_cloneDealer : (((List P50) × Unit) → (Option (Unit × ((List P50) × Unit))))) (F_cloneSeal : (((List (List Int)) × Unit) → (Option (Unit × ((List (List Int)) × Unit))))) (F_clonePoint : (((List P33) × Unit) → (Option (Unit × ((List P33) × Unit))))) (ih1 : (Int × (Int × (P35 × (P35 × Unit)))) → Option (Unit × (P35 × Unit))) (s1 : (Int × (Int × (P35 × (P35 × Unit))))) : Option (Unit × (P35 × Unit)) :=
  bif (decide ((s1.2.1 < s1.1))) then
    need (inS s1.2.1 (((List.length s1.2.2.1.2.2.2.1) : Nat) : Int)) <|
    opt ((s1.2.2.1.2.2.2.1[(Int.toNat s1.2.1)]?)) fun r4 =>
    opt ((F_cloneSeal (r4.2.2.2.2.2.1, ()))) fun r5 =>
    opt ((s1.2.2.1.2.2.2.1[(Int.toNat s1.2.1)]?)) fun r6 =>
    opt ((F_clonePoint (r6.2.2.2.2.2.2.1, ()))) fun r7 =>
    opt ((s1.2.2.1.2.2.2.1[(Int.toNat s1.2.1)]?)) fun r8 =>
    opt (((List.set s1.2.2.1.2.2.2.1 (Int.toNat s1.2.1) (r8.1, (r8.2.1, (r8.2.2.1, (r8.2.2.2.1, (r8.2.2.2.2.1, (r5.2.1, r8.2.2.2.2.2.2)))))))[(Int.toNat s1.2.1)]?)) fun r9 =>
    ih1 (s1.1, ((IntKind.wrap IntKind.i64 (s1.2.1 + (1 : Int))), ((s1.2.2.1.1, (s1.2.2.1.2.1, (s1.2.2.1.2.2.1, ((List.set (List.set s1.2.2.1.2.2.2.1 (Int.toNat s1.2.1) (r8.1, (r8.2.1, (r8.2.2.1, (r8.2.2.2.1, (r8.2.2.2.2.1, (r5.2.1, r8.2.2.2.2.2.2))))))) (Int.toNat s1.2.1) (r9.1, (r9.2.1, (r9.2.2.1, (r9.2.2.2.1, (r9.2.2.2.2.1, (r9.2.2.2.2.2.1, (r7.2.1, r9.2.2.2.2.2.2.2)))))))), s1.2.2.1.2.2.2.2)))), s1.2.2.2)))
  else
    some ((), (s1.2.2.1, ()))

def ctwin (fuel : Nat) (F_cloneI : (((List Int) × Unit) → (Option (Unit × ((List Int) × Unit))))) (F_cloneDealer : (((List P50) × Unit) → (Option (Unit × ((List P50) × Unit))))) (F_cloneSeal : (((List (List Int)) × Unit) → (Option (Unit × ((List (List Int)) × Unit))))) (F_clonePoint : (((List P33) × Unit) → (Option (Unit × ((List P33) × Unit))))) (a0 : P35) : Option (Unit × (P35 × Unit)) :=
  opt ((F_cloneI a0.1.2.2.2)) fun r1 =>
  opt ((F_cloneI (a0.2.2.2.2.1, ()))) fun r2 =>
  opt ((F_cloneDealer (a0.2.2.2.1, ()))) fun r3 =>
  iter (ctwin_l0 fuel F_cloneI F_cloneDealer F_cloneSeal F_clonePoint) fuel ((((List.length r3.2.1) : Nat) : Int), ((0 : Int), (((a0.1.1, (a0.1.2.1, (a0.1.2.2.1, r1.2))), (a0.2.1, (a0.2.2.1, (r3.2.1, (r2.2.1, a0.2.2.2.2.2))))), ((((0 : Int), ((0 : Int), ((List.replicate 4 (0 : Int)), (([] : (List Int)), ())))), ((0 : Int), ((0 : Int), (([] : (List P50)), (([] : (List Int)), ((0 : Int), ((false, ((List.replicate 4 (0 : Int)), ((List.replicate 4 (0 : Int)), ()))), ()))))))), ()))))

theorem ctwin_eq (fuel : Nat) (F_cloneI : (List Int × Unit) → Option ((Unit) × (List Int × Unit))) (F_cloneDealer : ((List P50) × Unit) → Option ((Unit) × ((List P50) × Unit))) (F_cloneSeal : (List (List Int) × Unit) → Option ((Unit) × (List (List Int) × Unit))) (F_clonePoint : ((List P33) × Unit) → Option ((Unit) × ((List P33) × Unit))) (a0 : P27 × Int × Int × List P50 × List Int × Int × P33 × Unit) : execFn (E_ctwin F_cloneI F_cloneDealer F_cloneSeal F_clonePoint) fuel Tryz.f65 ps_ctwin rs_ctwin ((a0, ()) : DP ps_ctwin) (fun z => some (z : (Unit) × (P35 × Unit))) = ctwin fuel F_cloneI F_cloneDealer F_cloneSeal F_clonePoint a0 := by kernel_rfl

def E_pcheck : Env :=
  { tab := lookT tabL, call := lookC [], nt := 0, pars := [],
    slots := fun b => match b with
    | 0 => [.fix 1 1 [], .tmp 3 (.int .i64), .tmp 33 (.arr 4 .i64), .tmp 34 (.int .i64), .obj 1 (.prod (.int .i64) (.prod (.int .i64) (.prod (.arr 4 .i64) (.prod (.sl .ro (.int .i64)) .unit))))]
    | 2 => [.tmp 47 (.sl .ro (.int .i64)), .tmp 48 (.int .i64), .tmp 49 (.int .i64)]
    | _ => [] }
def pcheck_l1 (fuel : Nat) (ih2 : ((List Int) × (Int × (Int × Unit))) → Option (Unit × (Int × Unit))) (s2 : ((List Int) × (Int × (Int × Unit)))) : Option (Unit × (Int × Unit)) :=
  bif (decide ((s2.2.2.1 < s2.2.1))) then
    opt ((getI s2.1 s2.2.2.1)) fun r2 =>
    bif (decide ((r2 < (0 : Int)))) then
      some ((), ((1 : Int), ()))
    else
      bif (decide ((r2 > (1099511627776 : Int)))) then
        some ((), ((1 : Int), ()))
      else
        ih2 (s2.1, (s2.2.1, ((IntKind.wrap IntKind.i64 (s2.2.2.1 + (1 : Int))), ())))
  else
    some ((), ((0 : Int), ()))

def pcheck_l0 (fuel : Nat) (ih1 : (Int × ((List Int) × (Int × (P27 × Unit)))) → Option (Unit × (Int × Unit))) (s1 : (Int × ((List Int) × (Int × (P27 × Unit))))) : Option (Unit × (Int × Unit)) :=
  bif (decide ((s1.2.2.1 < (4 : Int)))) then
    opt ((getI s1.2.1 s1.2.2.1)) fun r1 =>
    bif (decide ((r1 < s1.1))) then
      some ((), ((1 : Int), ()))
    else
      bif (decide ((r1 > (1048576 : Int)))) then
        some ((), ((1 : Int), ()))
      else
        ih1 (r1, (s1.2.1, ((IntKind.wrap IntKind.i64 (s1.2.2.1 + (1 : Int))), s1.2.2.2)))
  else
    iter (pcheck_l1 fuel) fuel (s1.2.2.2.1.2.2.2.1, ((((List.length s1.2.2.2.1.2.2.2.1) : Nat) : Int), ((0 : Int), ())))

def pcheck (fuel : Nat) (a0 : P27) : Option (Unit × (Int × Unit)) :=
  bif (decide ((a0.1 < (0 : Int)))) then
    some ((), ((1 : Int), ()))
  else
    bif (decide ((a0.1 ≥ (64 : Int)))) then
      some ((), ((1 : Int), ()))
    else
      bif (decide ((a0.2.1 < (0 : Int)))) then
        some ((), ((1 : Int), ()))
      else
        bif (decide ((a0.2.1 > (1099511627776 : Int)))) then
          some ((), ((1 : Int), ()))
        else
          bif (decide (((((List.length a0.2.2.2.1) : Nat) : Int) > (16 : Int)))) then
            some ((), ((1 : Int), ()))
          else
            iter (pcheck_l0 fuel) fuel ((0 : Int), (a0.2.2.1, ((0 : Int), (a0, ()))))

theorem pcheck_eq (fuel : Nat) (a0 : Int × Int × List Int × List Int × Unit) : execFn (E_pcheck) fuel Tryz.f69 ps_pcheck rs_pcheck ((a0, ()) : DP ps_pcheck) (fun z => some (z : (Unit) × (Int × Unit))) = pcheck fuel a0 := by kernel_rfl

def E_pat : Env :=
  { tab := lookT tabL, call := lookC [], nt := 0, pars := [],
    slots := fun b => match b with
    | 0 => [.tmp 1 (.int .i64), .tmp 8 (.arr 4 .i64), .tmp 9 (.int .i64)]
    | _ => [] }
def pat_l0 (fuel : Nat) (ih1 : (Int × ((List Int) × (Int × Unit))) → Option (Unit × (Int × Unit))) (s1 : (Int × ((List Int) × (Int × Unit)))) : Option (Unit × (Int × Unit)) :=
  bif (decide ((s1.2.2.1 < (4 : Int)))) then
    opt ((getI s1.2.1 s1.2.2.1)) fun r1 =>
    bif (decide ((r1 ≥ (maxI s1.1 (0 : Int))))) then
      some ((), ((IntKind.wrap IntKind.i64 ((1 : Int) + s1.2.2.1)), ()))
    else
      ih1 (s1.1, (s1.2.1, ((IntKind.wrap IntKind.i64 (s1.2.2.1 + (1 : Int))), ())))
  else
    some ((), ((0 : Int), ()))

def pat (fuel : Nat) (a0 : P27) (a1 : Int) : Option (Unit × (Int × Unit)) :=
  iter (pat_l0 fuel) fuel (a1, (a0.2.2.1, ((0 : Int), ())))

theorem pat_eq (fuel : Nat) (a0 : Int × Int × List Int × List Int × Unit) (a1 : Int) : execFn (E_pat) fuel Tryz.f72 ps_pat rs_pat ((a0, a1, ()) : DP ps_pat) (fun z => some (z : (Unit) × (Int × Unit))) = pat fuel a0 a1 := by kernel_rfl

def E_pbegins (F_pat : (P27 × Int × Unit) → Option ((Unit) × (Int × Unit))) : Env :=
  { tab := lookT tabL, call := lookC [(72, { ps := ps_pat, rs := rs_pat, F := F_pat })], nt := 0, pars := [],
    slots := fun _ => [] }
def pbegins (fuel : Nat) (F_pat : ((P27 × (Int × Unit)) → (Option (Unit × (Int × Unit))))) (a0 : P27) (a1 : Int) : Option (Unit × (Int × (Bool × Unit))) :=
  opt ((F_pat (a0, (a1, ())))) fun r1 =>
  bif (decide ((a1 ≥ (1 : Int)))) then
    opt ((F_pat (a0, ((IntKind.wrap IntKind.i64 (a1 - (1 : Int))), ())))) fun r2 =>
    some ((), (r1.2.1, ((r1.2.1 != r2.2.1), ())))
  else
    some ((), (r1.2.1, (false, ())))

theorem pbegins_eq (fuel : Nat) (F_pat : (P27 × Int × Unit) → Option ((Unit) × (Int × Unit))) (a0 : Int × Int × List Int × List Int × Unit) (a1 : Int) : execFn (E_pbegins F_pat) fuel Tryz.f70 ps_pbegins rs_pbegins ((a0, a1, ()) : DP ps_pbegins) (fun z => some (z : (Unit) × (Int × Bool × Unit))) = pbegins fuel F_pat a0 a1 := by kernel_rfl

def E_cover : Env :=
  { tab := lookT tabL, call := lookC [], nt := 0, pars := [],
    slots := fun _ => [] }
def cover (fuel : Nat) (a0 : P35) : Option (Unit × (Bool × Unit)) :=
  bif (a0.2.2.1 == (5 : Int)) then
    some ((), (true, ()))
  else
    some ((), ((a0.2.2.1 == (6 : Int)), ()))

theorem cover_eq (fuel : Nat) (a0 : P27 × Int × Int × List P50 × List Int × Int × P33 × Unit) : execFn (E_cover) fuel Tryz.f71 ps_cover rs_cover ((a0, ()) : DP ps_cover) (fun z => some (z : (Unit) × (Bool × Unit))) = cover fuel a0 := by kernel_rfl

def E_cturn (F_ctwin : (P35 × Unit) → Option ((Unit) × (P35 × Unit))) (F_pcheck : (P27 × Unit) → Option ((Unit) × (Int × Unit))) (F_pbegins : (P27 × Int × Unit) → Option ((Unit) × (Int × Bool × Unit))) (F_cover : (P35 × Unit) → Option ((Unit) × (Bool × Unit))) (F_pat : (P27 × Int × Unit) → Option ((Unit) × (Int × Unit))) : Env :=
  { tab := lookT tabL, call := lookC [(65, { ps := ps_ctwin, rs := rs_ctwin, F := F_ctwin }), (69, { ps := ps_pcheck, rs := rs_pcheck, F := F_pcheck }), (70, { ps := ps_pbegins, rs := rs_pbegins, F := F_pbegins }), (71, { ps := ps_cover, rs := rs_cover, F := F_cover }), (72, { ps := ps_pat, rs := rs_pat, F := F_pat })], nt := 0, pars := [],
    slots := fun b => match b with
    | 0 => [.fix 1 1 [], .fix 2 2 [], .tmp 3 (.int .i64), .tmp 5 (.int .i64), .tmp 6 (.int .i64), .obj 1 (.prod (.prod (.int .i64) (.prod (.int .i64) (.prod (.arr 4 .i64) (.prod (.sl .ro (.int .i64)) .unit)))) (.prod (.int .i64) (.prod (.int .i64) (.prod (.sl .ro (.prod (.int .i64) (.prod (.prod .bool (.prod (.arr 4 .u64) (.prod (.arr 4 .u64) .unit))) (.prod .str (.prod (.int .i64) (.prod .bool (.prod (.sl .ro (.arr 32 .u8)) (.prod (.sl .ro (.prod .bool (.prod (.arr 4 .u64) (.prod (.arr 4 .u64) .unit)))) (.prod .bool (.prod .bool (.prod (.prod .bool (.prod (.arr 4 .u64) (.prod (.arr 4 .u64) .unit))) .unit))))))))))) (.prod (.sl .ro (.int .i64)) (.prod (.int .i64) (.prod (.prod .bool (.prod (.arr 4 .u64) (.prod (.arr 4 .u64) .unit))) .unit))))))), .obj 2 (.prod (.prod (.int .i64) (.prod (.int .i64) (.prod (.arr 4 .i64) (.prod (.sl .ro (.int .i64)) .unit)))) (.prod (.int .i64) (.prod (.int .i64) (.prod (.sl .ro (.prod (.int .i64) (.prod (.prod .bool (.prod (.arr 4 .u64) (.prod (.arr 4 .u64) .unit))) (.prod .str (.prod (.int .i64) (.prod .bool (.prod (.sl .ro (.arr 32 .u8)) (.prod (.sl .ro (.prod .bool (.prod (.arr 4 .u64) (.prod (.arr 4 .u64) .unit)))) (.prod .bool (.prod .bool (.prod (.prod .bool (.prod (.arr 4 .u64) (.prod (.arr 4 .u64) .unit))) .unit))))))))))) (.prod (.sl .ro (.int .i64)) (.prod (.int .i64) (.prod (.prod .bool (.prod (.arr 4 .u64) (.prod (.arr 4 .u64) .unit))) .unit)))))))]
    | _ => [] }
def cturn_l0 (fuel : Nat) (F_ctwin : ((P35 × Unit) → (Option (Unit × (P35 × Unit))))) (F_pcheck : ((P27 × Unit) → (Option (Unit × (Int × Unit))))) (F_pbegins : ((P27 × (Int × Unit)) → (Option (Unit × (Int × (Bool × Unit)))))) (F_cover : ((P35 × Unit) → (Option (Unit × (Bool × Unit))))) (F_pat : ((P27 × (Int × Unit)) → (Option (Unit × (Int × Unit))))) (ih1 : (Int × (Int × (Int × (P35 × (P35 × Unit))))) → Option (Unit × (P35 × Unit))) (s1 : (Int × (Int × (Int × (P35 × (P35 × Unit)))))) : Option (Unit × (P35 × Unit)) :=
  bif (decide ((s1.2.2.1 ≤ s1.2.1))) then
    opt ((F_cover (s1.2.2.2.1, ()))) fun r6 =>
    bif (not r6.2.1) then
      none
    else
      opt ((F_cover (s1.2.2.2.1, ()))) fun r7 =>
      bif (not r7.2.1) then
        some ((), ((s1.2.2.2.1.1, (s1.2.2.2.1.2.1, (s1.1, s1.2.2.2.1.2.2.2))), ()))
      else
        some ((), (s1.2.2.2.1, ()))
  else
    opt ((F_cover (s1.2.2.2.1, ()))) fun r8 =>
    bif (not r8.2.1) then
      some ((), ((s1.2.2.2.1.1, (s1.2.2.2.1.2.1, (s1.1, s1.2.2.2.1.2.2.2))), ()))
    else
      some ((), (s1.2.2.2.1, ()))

def cturn (fuel : Nat) (F_ctwin : ((P35 × Unit) → (Option (Unit × (P35 × Unit))))) (F_pcheck : ((P27 × Unit) → (Option (Unit × (Int × Unit))))) (F_pbegins : ((P27 × (Int × Unit)) → (Option (Unit × (Int × (Bool × Unit)))))) (F_cover : ((P35 × Unit) → (Option (Unit × (Bool × Unit))))) (F_pat : ((P27 × (Int × Unit)) → (Option (Unit × (Int × Unit))))) (a0 : P35) : Option (Unit × (P35 × Unit)) :=
  opt ((F_ctwin (a0, ()))) fun r1 =>
  bif (decide ((r1.2.1.2.1 ≥ (1048576 : Int)))) then
    some ((), r1.2)
  else
    opt ((F_pcheck (r1.2.1.1, ()))) fun r2 =>
    bif (r2.2.1 != (0 : Int)) then
      some ((), r1.2)
    else
      opt ((F_pbegins (r1.2.1.1, ((IntKind.wrap IntKind.i64 (r1.2.1.2.1 + (1 : Int))), ())))) fun r3 =>
      opt ((F_cover ((r1.2.1.1, ((IntKind.wrap IntKind.i64 (r1.2.1.2.1 + (1 : Int))), r1.2.1.2.2)), ()))) fun r4 =>
      bif r4.2.1 then
        some ((), ((r1.2.1.1, ((IntKind.wrap IntKind.i64 (r1.2.1.2.1 + (1 : Int))), r1.2.1.2.2)), ()))
      else
        bif (not r3.2.2.1) then
          some ((), ((r1.2.1.1, ((IntKind.wrap IntKind.i64 (r1.2.1.2.1 + (1 : Int))), r1.2.1.2.2)), ()))
        else
          bif (r3.2.1 == (0 : Int)) then
            opt ((F_pat (r1.2.1.1, ((IntKind.wrap IntKind.i64 ((IntKind.wrap IntKind.i64 (r1.2.1.2.1 + (1 : Int))) - (1 : Int))), ())))) fun r5 =>
            iter (cturn_l0 fuel F_ctwin F_pcheck F_pbegins F_cover F_pat) fuel (r3.2.1, ((4 : Int), (r5.2.1, ((r1.2.1.1, ((IntKind.wrap IntKind.i64 (r1.2.1.2.1 + (1 : Int))), r1.2.1.2.2)), ((((0 : Int), ((0 : Int), ((List.replicate 4 (0 : Int)), (([] : (List Int)), ())))), ((0 : Int), ((0 : Int), (([] : (List P50)), (([] : (List Int)), ((0 : Int), ((false, ((List.replicate 4 (0 : Int)), ((List.replicate 4 (0 : Int)), ()))), ()))))))), ())))))
          else
            opt ((F_pat (r1.2.1.1, ((IntKind.wrap IntKind.i64 ((IntKind.wrap IntKind.i64 (r1.2.1.2.1 + (1 : Int))) - (1 : Int))), ())))) fun r9 =>
            iter (cturn_l0 fuel F_ctwin F_pcheck F_pbegins F_cover F_pat) fuel (r3.2.1, ((IntKind.wrap IntKind.i64 (r3.2.1 - (1 : Int))), (r9.2.1, ((r1.2.1.1, ((IntKind.wrap IntKind.i64 (r1.2.1.2.1 + (1 : Int))), r1.2.1.2.2)), ((((0 : Int), ((0 : Int), ((List.replicate 4 (0 : Int)), (([] : (List Int)), ())))), ((0 : Int), ((0 : Int), (([] : (List P50)), (([] : (List Int)), ((0 : Int), ((false, ((List.replicate 4 (0 : Int)), ((List.replicate 4 (0 : Int)), ()))), ()))))))), ())))))

theorem cturn_eq (fuel : Nat) (F_ctwin : (P35 × Unit) → Option ((Unit) × (P35 × Unit))) (F_pcheck : (P27 × Unit) → Option ((Unit) × (Int × Unit))) (F_pbegins : (P27 × Int × Unit) → Option ((Unit) × (Int × Bool × Unit))) (F_cover : (P35 × Unit) → Option ((Unit) × (Bool × Unit))) (F_pat : (P27 × Int × Unit) → Option ((Unit) × (Int × Unit))) (a0 : P27 × Int × Int × List P50 × List Int × Int × P33 × Unit) : execFn (E_cturn F_ctwin F_pcheck F_pbegins F_cover F_pat) fuel Tryz.f19 ps_cturn rs_cturn ((a0, ()) : DP ps_cturn) (fun z => some (z : (Unit) × (P35 × Unit))) = cturn fuel F_ctwin F_pcheck F_pbegins F_cover F_pat a0 := by kernel_rfl

def E_has : Env :=
  { tab := lookT tabL, call := lookC [], nt := 0, pars := [],
    slots := fun _ => [] }
def has (fuel : Nat) (a0 : P158) (a1 : Int) : Option (Unit × (Bool × Unit)) :=
  bif (decide ((a1 ≥ (0 : Int)))) then
    some ((), ((decide ((a1 < (((List.length a0.2.1) : Nat) : Int)))), ()))
  else
    some ((), (false, ()))

theorem has_eq (fuel : Nat) (a0 : P35 × List P155 × Int × Unit) (a1 : Int) : execFn (E_has) fuel Tryz.f80 ps_has rs_has ((a0, a1, ()) : DP ps_has) (fun z => some (z : (Unit) × (Bool × Unit))) = has fuel a0 a1 := by kernel_rfl

def E_ltwin (F_cloneTx : ((List P74) × Unit) → Option ((Unit) × ((List P74) × Unit))) (F_cloneB : (List Int × Unit) → Option ((Unit) × (List Int × Unit))) : Env :=
  { tab := lookT tabL, call := lookC [(140, { ps := ps_cloneTx, rs := rs_cloneTx, F := F_cloneTx }), (141, { ps := ps_cloneB, rs := rs_cloneB, F := F_cloneB })], nt := 0, pars := [],
    slots := fun b => match b with
    | 0 => [.fix 1 1 [], .fix 2 2 [], .tmp 10 (.int .i64), .tmp 11 (.int .i64), .obj 1 (.prod (.int .i64) (.prod (.int .i64) (.prod (.int .i64) (.prod (.sl .ownx (.prod (.int .i64) (.prod (.sl .ro (.int .u8)) .unit))) .unit)))), .obj 2 (.prod (.int .i64) (.prod (.int .i64) (.prod (.int .i64) (.prod (.sl .ro (.prod (.int .i64) (.prod (.sl .ro (.int .u8)) .unit))) .unit))))]
    | _ => [] }
def ltwin_l0 (fuel : Nat) (F_cloneTx : (((List P74) × Unit) → (Option (Unit × ((List P74) × Unit))))) (F_cloneB : (((List Int) × Unit) → (Option (Unit × ((List Int) × Unit))))) (ih1 : (Int × (Int × (P66 × (P66 × Unit)))) → Option (Unit × (P66 × Unit))) (s1 : (Int × (Int × (P66 × (P66 × Unit))))) : Option (Unit × (P66 × Unit)) :=
  bif (decide ((s1.2.1 < s1.1))) then
    need (inS s1.2.1 (((List.length s1.2.2.1.2.2.2.1) : Nat) : Int)) <|
    opt ((s1.2.2.1.2.2.2.1[(Int.toNat s1.2.1)]?)) fun r2 =>
    opt ((F_cloneB r2.2)) fun r3 =>
    need (inS s1.2.1 (((List.length s1.2.2.1.2.2.2.1) : Nat) : Int)) <|
    opt ((s1.2.2.1.2.2.2.1[(Int.toNat s1.2.1)]?)) fun r4 =>
    ih1 (s1.1, ((IntKind.wrap IntKind.i64 (s1.2.1 + (1 : Int))), ((s1.2.2.1.1, (s1.2.2.1.2.1, (s1.2.2.1.2.2.1, ((List.set s1.2.2.1.2.2.2.1 (Int.toNat s1.2.1) (r4.1, r3.2)), ())))), s1.2.2.2)))
  else
    some ((), (s1.2.2.1, ()))

def ltwin (fuel : Nat) (F_cloneTx : (((List P74) × Unit) → (Option (Unit × ((List P74) × Unit))))) (F_cloneB : (((List Int) × Unit) → (Option (Unit × ((List Int) × Unit))))) (a0 : P66) : Option (Unit × (P66 × Unit)) :=
  opt ((F_cloneTx a0.2.2.2)) fun r1 =>
  iter (ltwin_l0 fuel F_cloneTx F_cloneB) fuel ((((List.length r1.2.1) : Nat) : Int), ((0 : Int), ((a0.1, (a0.2.1, (a0.2.2.1, r1.2))), (((0 : Int), ((0 : Int), ((0 : Int), (([] : (List P74)), ())))), ()))))

theorem ltwin_eq (fuel : Nat) (F_cloneTx : ((List P74) × Unit) → Option ((Unit) × ((List P74) × Unit))) (F_cloneB : (List Int × Unit) → Option ((Unit) × (List Int × Unit))) (a0 : Int × Int × Int × List P74 × Unit) : execFn (E_ltwin F_cloneTx F_cloneB) fuel Tryz.f81 ps_ltwin rs_ltwin ((a0, ()) : DP ps_ltwin) (fun z => some (z : (Unit) × (P66 × Unit))) = ltwin fuel F_cloneTx F_cloneB a0 := by kernel_rfl

def E_bcheck : Env :=
  { tab := lookT tabL, call := lookC [], nt := 0, pars := [],
    slots := fun b => match b with
    | 0 => [.tmp 3 .bool, .tmp 34 (.sl .ro (.prod (.int .i64) (.prod (.sl .ro (.int .u8)) .unit))), .tmp 35 (.int .i64), .tmp 36 (.int .i64)]
    | _ => [] }
def bcheck_l0 (fuel : Nat) (ih1 : (Bool × ((List P74) × (Int × (Int × Unit)))) → Option (Unit × (Int × Unit))) (s1 : (Bool × ((List P74) × (Int × (Int × Unit))))) : Option (Unit × (Int × Unit)) :=
  bif (decide ((s1.2.2.2.1 < s1.2.2.1))) then
    opt ((getI s1.2.1 s1.2.2.2.1)) fun r1 =>
    bif (decide ((r1.1 < (0 : Int)))) then
      some ((), ((1 : Int), ()))
    else
      bif (decide ((r1.1 ≥ (16 : Int)))) then
        some ((), ((1 : Int), ()))
      else
        bif s1.1 then
          ih1 (true, (s1.2.1, (s1.2.2.1, ((IntKind.wrap IntKind.i64 (s1.2.2.2.1 + (1 : Int))), ()))))
        else
          ih1 ((decide (((((List.length r1.2.1) : Nat) : Int) > (16384 : Int)))), (s1.2.1, (s1.2.2.1, ((IntKind.wrap IntKind.i64 (s1.2.2.2.1 + (1 : Int))), ()))))
  else
    bif s1.1 then
      some ((), ((4 : Int), ()))
    else
      some ((), ((0 : Int), ()))

def bcheck (fuel : Nat) (a0 : P66) : Option (Unit × (Int × Unit)) :=
  bif (decide ((a0.1 < (Neg.neg (1 : Int))))) then
    some ((), ((1 : Int), ()))
  else
    bif (decide ((a0.2.1 < (1 : Int)))) then
      some ((), ((1 : Int), ()))
    else
      bif (decide ((a0.2.1 > (1048576 : Int)))) then
        some ((), ((1 : Int), ()))
      else
        bif (decide ((a0.2.2.1 < (0 : Int)))) then
          some ((), ((1 : Int), ()))
        else
          bif (decide ((a0.2.2.1 > (1073741824 : Int)))) then
            some ((), ((1 : Int), ()))
          else
            iter (bcheck_l0 fuel) fuel ((decide (((((List.length a0.2.2.2.1) : Nat) : Int) > (32 : Int)))), (a0.2.2.2.1, ((((List.length a0.2.2.2.1) : Nat) : Int), ((0 : Int), ()))))

theorem bcheck_eq (fuel : Nat) (a0 : Int × Int × Int × List P74 × Unit) : execFn (E_bcheck) fuel Tryz.f82 ps_bcheck rs_bcheck ((a0, ()) : DP ps_bcheck) (fun z => some (z : (Unit) × (Int × Unit))) = bcheck fuel a0 := by kernel_rfl

def E_room : Env :=
  { tab := lookT tabL, call := lookC [], nt := 0, pars := [],
    slots := fun _ => [] }
def room (fuel : Nat) (a0 : Int) : Option (Unit × (Int × Unit)) :=
  need (decide (((0 : Int) ≤ (IntKind.wrap IntKind.i64 ((8 : Int) * a0))))) <|
  some ((), ((IntKind.wrap IntKind.i64 ((1 : Int) * ((2 : Int) ^ (min (Int.toNat (IntKind.wrap IntKind.i64 ((8 : Int) * a0))) (IntKind.bits IntKind.i64))))), ()))

theorem room_eq (fuel : Nat) (a0 : Int) : execFn (E_room) fuel Tryz.f259 ps_room rs_room ((a0, ()) : DP ps_room) (fun z => some (z : (Unit) × (Int × Unit))) = room fuel a0 := by kernel_rfl

def E_put (F_cloneB : (List Int × Unit) → Option ((Unit) × (List Int × Unit))) (F_room : (Int × Unit) → Option ((Unit) × (Int × Unit))) : Env :=
  { tab := lookT tabL, call := lookC [(141, { ps := ps_cloneB, rs := rs_cloneB, F := F_cloneB }), (259, { ps := ps_room, rs := rs_room, F := F_room })], nt := 0, pars := [],
    slots := fun b => match b with
    | 0 => [.tmp 1 (.int .i64), .tmp 8 (.sl .own (.int .u8)), .tmp 9 (.int .i64)]
    | _ => [] }
def put_l0 (fuel : Nat) (F_cloneB : (((List Int) × Unit) → (Option (Unit × ((List Int) × Unit))))) (F_room : ((Int × Unit) → (Option (Unit × (Int × Unit))))) (ih1 : (Int × ((List Int) × (Int × Unit))) → Option (Unit × ((List Int) × (Int × Unit)))) (s1 : (Int × ((List Int) × (Int × Unit)))) : Option (Unit × ((List Int) × (Int × Unit))) :=
  bif (decide ((s1.2.2.1 ≥ (0 : Int)))) then
    need (decide (((0 : Int) ≤ (IntKind.wrap IntKind.i64 ((8 : Int) * s1.2.2.1))))) <|
    need (decide ((((List.length s1.2.1) + (List.length ((IntKind.wrap IntKind.u8 (Int.fdiv s1.1 ((2 : Int) ^ (min (Int.toNat (IntKind.wrap IntKind.i64 ((8 : Int) * s1.2.2.1))) (IntKind.bits IntKind.i64))))) :: ([] : (List Int))))) ≤ 68719476736))) <|
    ih1 (s1.1, ((s1.2.1 ++ ((IntKind.wrap IntKind.u8 (Int.fdiv s1.1 ((2 : Int) ^ (min (Int.toNat (IntKind.wrap IntKind.i64 ((8 : Int) * s1.2.2.1))) (IntKind.bits IntKind.i64))))) :: ([] : (List Int)))), ((IntKind.wrap IntKind.i64 (s1.2.2.1 - (1 : Int))), ())))
  else
    some ((), (s1.2.1, ((0 : Int), ())))

def put (fuel : Nat) (F_cloneB : (((List Int) × Unit) → (Option (Unit × ((List Int) × Unit))))) (F_room : ((Int × Unit) → (Option (Unit × (Int × Unit))))) (a0 : (List Int)) (a1 : Int) (a2 : Int) : Option (Unit × ((List Int) × (Int × Unit))) :=
  bif (decide ((a2 < (1 : Int)))) then
    some ((), (([] : (List Int)), ((1 : Int), ())))
  else
    bif (decide ((a2 > (7 : Int)))) then
      some ((), (([] : (List Int)), ((1 : Int), ())))
    else
      bif (decide ((a1 < (0 : Int)))) then
        some ((), (([] : (List Int)), ((1 : Int), ())))
      else
        opt ((F_room (a2, ()))) fun r1 =>
        bif (decide ((a1 ≥ r1.2.1))) then
          some ((), (([] : (List Int)), ((1 : Int), ())))
        else
          opt ((F_cloneB (a0, ()))) fun r2 =>
          iter (put_l0 fuel F_cloneB F_room) fuel (a1, (r2.2.1, ((IntKind.wrap IntKind.i64 (a2 - (1 : Int))), ())))

theorem put_eq (fuel : Nat) (F_cloneB : (List Int × Unit) → Option ((Unit) × (List Int × Unit))) (F_room : (Int × Unit) → Option ((Unit) × (Int × Unit))) (a0 : List Int) (a1 : Int) (a2 : Int) : execFn (E_put F_cloneB F_room) fuel Tryz.f200 ps_put rs_put ((a0, a1, a2, ()) : DP ps_put) (fun z => some (z : (Unit) × (List Int × Int × Unit))) = put fuel F_cloneB F_room a0 a1 a2 := by kernel_rfl

def E_putPart (F_put : (List Int × Int × Int × Unit) → Option ((Unit) × (List Int × Int × Unit))) : Env :=
  { tab := lookT tabL, call := lookC [(200, { ps := ps_put, rs := rs_put, F := F_put })], nt := 0, pars := [],
    slots := fun _ => [] }
def putPart (fuel : Nat) (F_put : (((List Int) × (Int × (Int × Unit))) → (Option (Unit × ((List Int) × (Int × Unit)))))) (a0 : (List Int)) (a1 : (List Int)) : Option (Unit × ((List Int) × (Int × Unit))) :=
  bif (decide (((((List.length a1) : Nat) : Int) > (16384 : Int)))) then
    some ((), (([] : (List Int)), ((4 : Int), ())))
  else
    opt ((F_put (a0, ((((List.length a1) : Nat) : Int), ((4 : Int), ()))))) fun r1 =>
    need (decide ((((List.length r1.2.1) + (List.length a1)) ≤ 68719476736))) <|
    some ((), ((r1.2.1 ++ a1), r1.2.2))

theorem putPart_eq (fuel : Nat) (F_put : (List Int × Int × Int × Unit) → Option ((Unit) × (List Int × Int × Unit))) (a0 : List Int) (a1 : List Int) : execFn (E_putPart F_put) fuel Tryz.f201 ps_putPart rs_putPart ((a0, a1, ()) : DP ps_putPart) (fun z => some (z : (Unit) × (List Int × Int × Unit))) = putPart fuel F_put a0 a1 := by kernel_rfl

def E_bbytes (F_bcheck : (P66 × Unit) → Option ((Unit) × (Int × Unit))) (F_put : (List Int × Int × Int × Unit) → Option ((Unit) × (List Int × Int × Unit))) (F_putPart : (List Int × List Int × Unit) → Option ((Unit) × (List Int × Int × Unit))) : Env :=
  { tab := lookT tabL, call := lookC [(82, { ps := ps_bcheck, rs := rs_bcheck, F := F_bcheck }), (200, { ps := ps_put, rs := rs_put, F := F_put }), (201, { ps := ps_putPart, rs := rs_putPart, F := F_putPart })], nt := 0, pars := [],
    slots := fun b => match b with
    | 0 => [.tmp 7 (.sl .own (.int .u8)), .tmp 41 (.sl .ro (.prod (.int .i64) (.prod (.sl .ro (.int .u8)) .unit))), .tmp 42 (.int .i64), .tmp 43 (.int .i64)]
    | _ => [] }
def bbytes_l0 (fuel : Nat) (F_bcheck : ((P66 × Unit) → (Option (Unit × (Int × Unit))))) (F_put : (((List Int) × (Int × (Int × Unit))) → (Option (Unit × ((List Int) × (Int × Unit)))))) (F_putPart : (((List Int) × ((List Int) × Unit)) → (Option (Unit × ((List Int) × (Int × Unit)))))) (ih1 : ((List Int) × ((List P74) × (Int × (Int × Unit)))) → Option (Unit × ((List Int) × (Int × Unit)))) (s1 : ((List Int) × ((List P74) × (Int × (Int × Unit))))) : Option (Unit × ((List Int) × (Int × Unit))) :=
  bif (decide ((s1.2.2.2.1 < s1.2.2.1))) then
    opt ((getI s1.2.1 s1.2.2.2.1)) fun r5 =>
    opt ((F_put (s1.1, (r5.1, ((1 : Int), ()))))) fun r6 =>
    opt ((F_putPart (r6.2.1, r5.2))) fun r7 =>
    ih1 (r7.2.1, (s1.2.1, (s1.2.2.1, ((IntKind.wrap IntKind.i64 (s1.2.2.2.1 + (1 : Int))), ()))))
  else
    some ((), (s1.1, ((0 : Int), ())))

def bbytes (fuel : Nat) (F_bcheck : ((P66 × Unit) → (Option (Unit × (Int × Unit))))) (F_put : (((List Int) × (Int × (Int × Unit))) → (Option (Unit × ((List Int) × (Int × Unit)))))) (F_putPart : (((List Int) × ((List Int) × Unit)) → (Option (Unit × ((List Int) × (Int × Unit)))))) (a0 : (List Int)) (a1 : P66) : Option (Unit × ((List Int) × (Int × Unit))) :=
  opt ((F_bcheck (a1, ()))) fun r1 =>
  bif (r1.2.1 != (0 : Int)) then
    some ((), (([] : (List Int)), r1.2))
  else
    opt ((F_put (([] : (List Int)), (a1.2.1, ((4 : Int), ()))))) fun r2 =>
    opt ((F_put (r2.2.1, (a1.2.2.1, ((4 : Int), ()))))) fun r3 =>
    need (decide ((((List.length r3.2.1) + (List.length (cut a0 (Int.toNat (0 : Int)) (Int.toNat ((32 : Nat) : Int))))) ≤ 68719476736))) <|
    opt ((F_put ((r3.2.1 ++ (cut a0 (Int.toNat (0 : Int)) (Int.toNat ((32 : Nat) : Int)))), ((((List.length a1.2.2.2.1) : Nat) : Int), ((1 : Int), ()))))) fun r4 =>
    iter (bbytes_l0 fuel F_bcheck F_put F_putPart) fuel (r4.2.1, (a1.2.2.2.1, ((((List.length a1.2.2.2.1) : Nat) : Int), ((0 : Int), ()))))

theorem bbytes_eq (fuel : Nat) (F_bcheck : (P66 × Unit) → Option ((Unit) × (Int × Unit))) (F_put : (List Int × Int × Int × Unit) → Option ((Unit) × (List Int × Int × Unit))) (F_putPart : (List Int × List Int × Unit) → Option ((Unit) × (List Int × Int × Unit))) (a0 : List Int) (a1 : Int × Int × Int × List P74 × Unit) : execFn (E_bbytes F_bcheck F_put F_putPart) fuel Tryz.f142 ps_bbytes rs_bbytes ((a0, a1, ()) : DP ps_bbytes) (fun z => some (z : (Unit) × (List Int × Int × Unit))) = bbytes fuel F_bcheck F_put F_putPart a0 a1 := by kernel_rfl

def E_rounds : Env :=
  { tab := lookT tabL, call := lookC [], nt := 0, pars := [],
    slots := fun _ => [] }
def rounds (fuel : Nat) : Option (Unit × ((List Int) × Unit)) :=
  some ((), (((1116352408 : Int) :: ((1899447441 : Int) :: ((3049323471 : Int) :: ((3921009573 : Int) :: ((961987163 : Int) :: ((1508970993 : Int) :: ((2453635748 : Int) :: ((2870763221 : Int) :: ((3624381080 : Int) :: ((310598401 : Int) :: ((607225278 : Int) :: ((1426881987 : Int) :: ((1925078388 : Int) :: ((2162078206 : Int) :: ((2614888103 : Int) :: ((3248222580 : Int) :: ((3835390401 : Int) :: ((4022224774 : Int) :: ((264347078 : Int) :: ((604807628 : Int) :: ((770255983 : Int) :: ((1249150122 : Int) :: ((1555081692 : Int) :: ((1996064986 : Int) :: ((2554220882 : Int) :: ((2821834349 : Int) :: ((2952996808 : Int) :: ((3210313671 : Int) :: ((3336571891 : Int) :: ((3584528711 : Int) :: ((113926993 : Int) :: ((338241895 : Int) :: ((666307205 : Int) :: ((773529912 : Int) :: ((1294757372 : Int) :: ((1396182291 : Int) :: ((1695183700 : Int) :: ((1986661051 : Int) :: ((2177026350 : Int) :: ((2456956037 : Int) :: ((2730485921 : Int) :: ((2820302411 : Int) :: ((3259730800 : Int) :: ((3345764771 : Int) :: ((3516065817 : Int) :: ((3600352804 : Int) :: ((4094571909 : Int) :: ((275423344 : Int) :: ((430227734 : Int) :: ((506948616 : Int) :: ((659060556 : Int) :: ((883997877 : Int) :: ((958139571 : Int) :: ((1322822218 : Int) :: ((1537002063 : Int) :: ((1747873779 : Int) :: ((1955562222 : Int) :: ((2024104815 : Int) :: ((2227730452 : Int) :: ((2361852424 : Int) :: ((2428436474 : Int) :: ((2756734187 : Int) :: ((3204031479 : Int) :: ((3329325298 : Int) :: ([] : (List Int)))))))))))))))))))))))))))))))))))))))))))))))))))))))))))))))))), ()))

theorem rounds_eq (fuel : Nat) : execFn (E_rounds) fuel Tryz.f202 ps_rounds rs_rounds ((()) : DP ps_rounds) (fun z => some (z : (Unit) × (List Int × Unit))) = rounds fuel := by kernel_rfl

def E_padded : Env :=
  { tab := lookT tabL, call := lookC [], nt := 0, pars := [],
    slots := fun b => match b with
    | 0 => [.tmp 0 (.sl .ro (.int .u8)), .tmp 3 (.sl .own (.int .u8))]
    | 2 => [.tmp 3 (.sl .own (.int .u8)), .tmp 4 (.int .u64), .tmp 5 (.int .i64)]
    | _ => [] }
def padded_l1 (fuel : Nat) (ih2 : ((List Int) × (Int × (Int × Unit))) → Option (Unit × ((List Int) × Unit))) (s2 : ((List Int) × (Int × (Int × Unit)))) : Option (Unit × ((List Int) × Unit)) :=
  bif (decide ((s2.2.2.1 ≥ (0 : Int)))) then
    need (decide (((0 : Int) ≤ (IntKind.wrap IntKind.i64 ((8 : Int) * s2.2.2.1))))) <|
    need (decide ((((List.length s2.1) + (List.length ((IntKind.wrap IntKind.u8 (Int.fdiv s2.2.1 ((2 : Int) ^ (min (Int.toNat (IntKind.wrap IntKind.i64 ((8 : Int) * s2.2.2.1))) (IntKind.bits IntKind.u64))))) :: ([] : (List Int))))) ≤ 68719476736))) <|
    ih2 ((s2.1 ++ ((IntKind.wrap IntKind.u8 (Int.fdiv s2.2.1 ((2 : Int) ^ (min (Int.toNat (IntKind.wrap IntKind.i64 ((8 : Int) * s2.2.2.1))) (IntKind.bits IntKind.u64))))) :: ([] : (List Int)))), (s2.2.1, ((IntKind.wrap IntKind.i64 (s2.2.2.1 - (1 : Int))), ())))
  else
    some ((), (s2.1, ()))

def padded_l0 (fuel : Nat) (ih1 : ((List Int) × ((List Int) × Unit)) → Option (Unit × ((List Int) × Unit))) (s1 : ((List Int) × ((List Int) × Unit))) : Option (Unit × ((List Int) × Unit)) :=
  bif ((Int.tmod (((List.length s1.2.1) : Nat) : Int) (64 : Int)) != (56 : Int)) then
    need (decide ((((List.length s1.2.1) + (List.length ((0 : Int) :: ([] : (List Int))))) ≤ 68719476736))) <|
    ih1 (s1.1, ((s1.2.1 ++ ((0 : Int) :: ([] : (List Int)))), ()))
  else
    iter (padded_l1 fuel) fuel (s1.2.1, ((IntKind.wrap IntKind.u64 ((IntKind.wrap IntKind.u64 (((List.length s1.1) : Nat) : Int)) * ((2 : Int) ^ (min (Int.toNat (3 : Int)) (IntKind.bits IntKind.u64))))), ((7 : Int), ())))

def padded (fuel : Nat) (a0 : (List Int)) : Option (Unit × ((List Int) × Unit)) :=
  need (decide ((((List.length ([] : (List Int))) + (List.length a0)) ≤ 68719476736))) <|
  need (decide ((((List.length (([] : (List Int)) ++ a0)) + (List.length ((128 : Int) :: ([] : (List Int))))) ≤ 68719476736))) <|
  iter (padded_l0 fuel) fuel (a0, (((([] : (List Int)) ++ a0) ++ ((128 : Int) :: ([] : (List Int)))), ()))

theorem padded_eq (fuel : Nat) (a0 : List Int) : execFn (E_padded) fuel Tryz.f203 ps_padded rs_padded ((a0, ()) : DP ps_padded) (fun z => some (z : (Unit) × (List Int × Unit))) = padded fuel a0 := by kernel_rfl

def E_high : Env :=
  { tab := lookT tabL, call := lookC [], nt := 0, pars := [],
    slots := fun b => match b with
    | 0 => [.tmp 3 (.int .u64), .tmp 6 (.sl .ro (.int .u8)), .tmp 7 (.int .i64), .tmp 8 (.int .i64)]
    | _ => [] }
def high_l0 (fuel : Nat) (ih1 : (Int × ((List Int) × (Int × (Int × Unit)))) → Option (Unit × (Int × Unit))) (s1 : (Int × ((List Int) × (Int × (Int × Unit))))) : Option (Unit × (Int × Unit)) :=
  bif (decide ((s1.2.2.2.1 < s1.2.2.1))) then
    opt ((getI s1.2.1 s1.2.2.2.1)) fun r1 =>
    ih1 ((IntKind.wrap IntKind.u64 (((BitVec.toNat ((BitVec.ofInt (IntKind.bits IntKind.u64) (IntKind.wrap IntKind.u64 (s1.1 * ((2 : Int) ^ (min (Int.toNat (8 : Int)) (IntKind.bits IntKind.u64)))))) ||| (BitVec.ofInt (IntKind.bits IntKind.u64) (IntKind.wrap IntKind.u64 r1)))) : Nat) : Int)), (s1.2.1, (s1.2.2.1, ((IntKind.wrap IntKind.i64 (s1.2.2.2.1 + (1 : Int))), ()))))
  else
    some ((), (s1.1, ()))

def high (fuel : Nat) (a0 : (List Int)) : Option (Unit × (Int × Unit)) :=
  iter (high_l0 fuel) fuel ((0 : Int), (a0, ((((List.length a0) : Nat) : Int), ((0 : Int), ()))))

theorem high_eq (fuel : Nat) (a0 : List Int) : execFn (E_high) fuel Tryz.f204 ps_high rs_high ((a0, ()) : DP ps_high) (fun z => some (z : (Unit) × (Int × Unit))) = high fuel a0 := by kernel_rfl

def E_rotl : Env :=
  { tab := lookT tabL, call := lookC [], nt := 0, pars := [],
    slots := fun _ => [] }
def rotl (fuel : Nat) (a0 : Int) (a1 : Int) : Option (Unit × (Int × Unit)) :=
  need (decide (((0 : Int) ≤ (IntKind.wrap IntKind.u64 ((32 : Int) - (IntKind.wrap IntKind.u64 (((BitVec.toNat ((BitVec.ofInt (IntKind.bits IntKind.u64) (IntKind.wrap IntKind.u64 a1)) &&& (BitVec.ofInt (IntKind.bits IntKind.u64) (31 : Int)))) : Nat) : Int))))))) <|
  some ((), ((IntKind.wrap IntKind.u32 (((BitVec.toNat ((BitVec.ofInt (IntKind.bits IntKind.u32) (IntKind.wrap IntKind.u32 (a0 * ((2 : Int) ^ (min (Int.toNat (IntKind.wrap IntKind.u64 (((BitVec.toNat ((BitVec.ofInt (IntKind.bits IntKind.u64) (IntKind.wrap IntKind.u64 a1)) &&& (BitVec.ofInt (IntKind.bits IntKind.u64) (31 : Int)))) : Nat) : Int))) (IntKind.bits IntKind.u32)))))) ||| (BitVec.ofInt (IntKind.bits IntKind.u32) (Int.fdiv a0 ((2 : Int) ^ (min (Int.toNat (IntKind.wrap IntKind.u64 ((32 : Int) - (IntKind.wrap IntKind.u64 (((BitVec.toNat ((BitVec.ofInt (IntKind.bits IntKind.u64) (IntKind.wrap IntKind.u64 a1)) &&& (BitVec.ofInt (IntKind.bits IntKind.u64) (31 : Int)))) : Nat) : Int))))) (IntKind.bits IntKind.u32))))))) : Nat) : Int)), ()))

theorem rotl_eq (fuel : Nat) (a0 : Int) (a1 : Int) : execFn (E_rotl) fuel Tryz.f205 ps_rotl rs_rotl ((a0, a1, ()) : DP ps_rotl) (fun z => some (z : (Unit) × (Int × Unit))) = rotl fuel a0 a1 := by kernel_rfl

def E_sum (F_rounds : (Unit) → Option ((Unit) × (List Int × Unit))) (F_padded : (List Int × Unit) → Option ((Unit) × (List Int × Unit))) (F_high : (List Int × Unit) → Option ((Unit) × (Int × Unit))) (F_rotl : (Int × Int × Unit) → Option ((Unit) × (Int × Unit))) : Env :=
  { tab := lookT tabL, call := lookC [(202, { ps := ps_rounds, rs := rs_rounds, F := F_rounds }), (203, { ps := ps_padded, rs := rs_padded, F := F_padded }), (204, { ps := ps_high, rs := rs_high, F := F_high }), (205, { ps := ps_rotl, rs := rs_rotl, F := F_rotl })], nt := 0, pars := [],
    slots := fun b => match b with
    | 0 => [.fix 2 2 [], .fix 3 3 [], .tmp 4 (.sl .ro (.int .u32)), .tmp 5 (.sl .ro (.int .u8)), .obj 2 (.arr 32 .u8), .obj 3 (.arr 8 .u32)]
    | 2 => [.fix 2 2 [], .fix 3 3 [], .tmp 4 (.sl .ro (.int .u32)), .tmp 5 (.sl .ro (.int .u8)), .fix 6 6 [], .tmp 32 (.int .i64), .obj 2 (.arr 32 .u8), .obj 3 (.arr 8 .u32), .obj 6 (.arr 64 .u32)]
    | 4 => [.fix 2 2 [], .fix 3 3 [], .tmp 4 (.sl .ro (.int .u32)), .tmp 5 (.sl .ro (.int .u8)), .fix 6 6 [], .fix 12 12 [], .tmp 89 (.int .i64), .obj 2 (.arr 32 .u8), .obj 3 (.arr 8 .u32), .obj 6 (.arr 64 .u32), .obj 12 (.arr 8 .u32)]
    | 6 => [.fix 2 2 [], .fix 3 3 [], .tmp 4 (.sl .ro (.int .u32)), .tmp 5 (.sl .ro (.int .u8)), .fix 12 12 [], .tmp 172 (.int .i64), .obj 2 (.arr 32 .u8), .obj 3 (.arr 8 .u32), .obj 12 (.arr 8 .u32)]
    | 8 => [.fix 2 2 [], .fix 3 3 [], .fix 21 21 [], .tmp 184 (.int .i64), .obj 2 (.arr 32 .u8), .obj 3 (.arr 8 .u32), .obj 21 (.arr 32 .u8)]
    | _ => [] }
def sum_l4 (fuel : Nat) (F_rounds : (Unit → (Option (Unit × ((List Int) × Unit))))) (F_padded : (((List Int) × Unit) → (Option (Unit × ((List Int) × Unit))))) (F_high : (((List Int) × Unit) → (Option (Unit × (Int × Unit))))) (F_rotl : ((Int × (Int × Unit)) → (Option (Unit × (Int × Unit))))) (ih5 : (Int × ((List Int) × ((List Int) × ((List Int) × Unit)))) → Option (Unit × ((List Int) × Unit))) (s5 : (Int × ((List Int) × ((List Int) × ((List Int) × Unit))))) : Option (Unit × ((List Int) × Unit)) :=
  bif (decide ((s5.1 < (32 : Int)))) then
    need (inI (IntKind.wrap IntKind.i64 (Int.tdiv s5.1 (4 : Int))) 8) <|
    opt ((s5.2.2.1[(Int.toNat (IntKind.wrap IntKind.i64 (Int.tdiv s5.1 (4 : Int))))]?)) fun r36 =>
    need (decide (((0 : Int) ≤ (IntKind.wrap IntKind.i64 ((24 : Int) - (IntKind.wrap IntKind.i64 ((8 : Int) * (Int.tmod s5.1 (4 : Int))))))))) <|
    need (inI s5.1 32) <|
    ih5 ((IntKind.wrap IntKind.i64 (s5.1 + (1 : Int))), (s5.2.1, (s5.2.2.1, ((List.set s5.2.2.2.1 (Int.toNat s5.1) (IntKind.wrap IntKind.u8 (Int.fdiv r36 ((2 : Int) ^ (min (Int.toNat (IntKind.wrap IntKind.i64 ((24 : Int) - (IntKind.wrap IntKind.i64 ((8 : Int) * (Int.tmod s5.1 (4 : Int))))))) (IntKind.bits IntKind.u32)))))), ()))))
  else
    some ((), s5.2.2.2)

def sum_l3 (fuel : Nat) (F_rounds : (Unit → (Option (Unit × ((List Int) × Unit))))) (F_padded : (((List Int) × Unit) → (Option (Unit × ((List Int) × Unit))))) (F_high : (((List Int) × Unit) → (Option (Unit × (Int × Unit))))) (F_rotl : ((Int × (Int × Unit)) → (Option (Unit × (Int × Unit))))) (ih1 : (((List Int) × ((List Int) × ((List Int) × ((List Int) × Unit)))) → (Option (Unit × ((List Int) × Unit))))) (ih4 : ((List Int) × ((List Int) × (Int × ((List Int) × ((List Int) × ((List Int) × Unit)))))) → Option (Unit × ((List Int) × Unit))) (s4 : ((List Int) × ((List Int) × (Int × ((List Int) × ((List Int) × ((List Int) × Unit))))))) : Option (Unit × ((List Int) × Unit)) :=
  bif (decide ((s4.2.2.1 < (8 : Int)))) then
    need (inI s4.2.2.1 8) <|
    opt ((s4.2.2.2.2.1[(Int.toNat s4.2.2.1)]?)) fun r34 =>
    need (inI s4.2.2.1 8) <|
    opt ((s4.2.2.2.2.2.1[(Int.toNat s4.2.2.1)]?)) fun r35 =>
    need (inI s4.2.2.1 8) <|
    ih4 (s4.1, (s4.2.1, ((IntKind.wrap IntKind.i64 (s4.2.2.1 + (1 : Int))), (s4.2.2.2.1, ((List.set s4.2.2.2.2.1 (Int.toNat s4.2.2.1) (IntKind.wrap IntKind.u32 (r34 + r35))), s4.2.2.2.2.2)))))
  else
    need (okCut (64 : Int) (((List.length s4.2.1) : Nat) : Int) (List.length s4.2.1)) <|
    ih1 (s4.1, ((cut s4.2.1 (Int.toNat (64 : Int)) (Int.toNat (((List.length s4.2.1) : Nat) : Int))), (s4.2.2.2.1, (s4.2.2.2.2.1, ()))))

def sum_l2 (fuel : Nat) (F_rounds : (Unit → (Option (Unit × ((List Int) × Unit))))) (F_padded : (((List Int) × Unit) → (Option (Unit × ((List Int) × Unit))))) (F_high : (((List Int) × Unit) → (Option (Unit × (Int × Unit))))) (F_rotl : ((Int × (Int × Unit)) → (Option (Unit × (Int × Unit))))) (ih1 : (((List Int) × ((List Int) × ((List Int) × ((List Int) × Unit)))) → (Option (Unit × ((List Int) × Unit))))) (ih3 : ((List Int) × ((List Int) × (Int × ((List Int) × ((List Int) × ((List Int) × ((List Int) × Unit))))))) → Option (Unit × ((List Int) × Unit))) (s3 : ((List Int) × ((List Int) × (Int × ((List Int) × ((List Int) × ((List Int) × ((List Int) × Unit)))))))) : Option (Unit × ((List Int) × Unit)) :=
  bif (decide ((s3.2.2.1 < (64 : Int)))) then
    opt ((s3.2.2.2.2.2.2.1[(Int.toNat (4 : Int))]?)) fun r12 =>
    opt ((s3.2.2.2.2.2.2.1[(Int.toNat (0 : Int))]?)) fun r13 =>
    opt ((F_rotl (r12, ((Neg.neg (6 : Int)), ())))) fun r14 =>
    opt ((F_rotl (r12, ((Neg.neg (11 : Int)), ())))) fun r15 =>
    opt ((F_rotl (r12, ((Neg.neg (25 : Int)), ())))) fun r16 =>
    opt ((s3.2.2.2.2.2.2.1[(Int.toNat (7 : Int))]?)) fun r17 =>
    opt ((s3.2.2.2.2.2.2.1[(Int.toNat (5 : Int))]?)) fun r18 =>
    opt ((s3.2.2.2.2.2.2.1[(Int.toNat (6 : Int))]?)) fun r19 =>
    opt ((getI s3.1 s3.2.2.1)) fun r20 =>
    need (inI s3.2.2.1 64) <|
    opt ((s3.2.2.2.2.2.1[(Int.toNat s3.2.2.1)]?)) fun r21 =>
    opt ((F_rotl (r13, ((Neg.neg (2 : Int)), ())))) fun r22 =>
    opt ((F_rotl (r13, ((Neg.neg (13 : Int)), ())))) fun r23 =>
    opt ((F_rotl (r13, ((Neg.neg (22 : Int)), ())))) fun r24 =>
    opt ((s3.2.2.2.2.2.2.1[(Int.toNat (1 : Int))]?)) fun r25 =>
    opt ((s3.2.2.2.2.2.2.1[(Int.toNat (2 : Int))]?)) fun r26 =>
    opt ((s3.2.2.2.2.2.2.1[(Int.toNat (1 : Int))]?)) fun r27 =>
    opt ((s3.2.2.2.2.2.2.1[(Int.toNat (2 : Int))]?)) fun r28 =>
    opt ((s3.2.2.2.2.2.2.1[(Int.toNat (1 : Int))]?)) fun r29 =>
    opt ((s3.2.2.2.2.2.2.1[(Int.toNat (2 : Int))]?)) fun r30 =>
    opt ((s3.2.2.2.2.2.2.1[(Int.toNat (3 : Int))]?)) fun r31 =>
    opt ((s3.2.2.2.2.2.2.1[(Int.toNat (5 : Int))]?)) fun r32 =>
    opt ((s3.2.2.2.2.2.2.1[(Int.toNat (6 : Int))]?)) fun r33 =>
    ih3 (s3.1, (s3.2.1, ((IntKind.wrap IntKind.i64 (s3.2.2.1 + (1 : Int))), (s3.2.2.2.1, (s3.2.2.2.2.1, (s3.2.2.2.2.2.1, ((List.set (List.set (List.set (List.set (List.set (List.set (List.set (List.set (List.replicate 8 (0 : Int)) 0 (IntKind.wrap IntKind.u32 ((IntKind.wrap IntKind.u32 ((IntKind.wrap IntKind.u32 ((IntKind.wrap IntKind.u32 ((IntKind.wrap IntKind.u32 (r17 + (IntKind.wrap IntKind.u32 (((BitVec.toNat ((BitVec.ofInt (IntKind.bits IntKind.u32) (IntKind.wrap IntKind.u32 (((BitVec.toNat ((BitVec.ofInt (IntKind.bits IntKind.u32) r14.2.1) ^^^ (BitVec.ofInt (IntKind.bits IntKind.u32) r15.2.1))) : Nat) : Int))) ^^^ (BitVec.ofInt (IntKind.bits IntKind.u32) r16.2.1))) : Nat) : Int)))) + (IntKind.wrap IntKind.u32 (((BitVec.toNat ((BitVec.ofInt (IntKind.bits IntKind.u32) (IntKind.wrap IntKind.u32 (((BitVec.toNat ((BitVec.ofInt (IntKind.bits IntKind.u32) r12) &&& (BitVec.ofInt (IntKind.bits IntKind.u32) r18))) : Nat) : Int))) ^^^ (BitVec.ofInt (IntKind.bits IntKind.u32) (IntKind.wrap IntKind.u32 (((BitVec.toNat ((BitVec.ofInt (IntKind.bits IntKind.u32) (IntKind.wrap IntKind.u32 (((BitVec.toNat ((BitVec.ofInt (IntKind.bits IntKind.u32) (if (false = true) then (Neg.neg (1 : Int)) else (if (false = true) then (((2 : Int) ^ ((IntKind.bits IntKind.u32) - 1)) - (1 : Int)) else (((2 : Int) ^ (IntKind.bits IntKind.u32)) - (1 : Int))))) ^^^ (BitVec.ofInt (IntKind.bits IntKind.u32) r12))) : Nat) : Int))) &&& (BitVec.ofInt (IntKind.bits IntKind.u32) r19))) : Nat) : Int))))) : Nat) : Int)))) + r20)) + r21)) + (IntKind.wrap IntKind.u32 ((IntKind.wrap IntKind.u32 (((BitVec.toNat ((BitVec.ofInt (IntKind.bits IntKind.u32) (IntKind.wrap IntKind.u32 (((BitVec.toNat ((BitVec.ofInt (IntKind.bits IntKind.u32) r22.2.1) ^^^ (BitVec.ofInt (IntKind.bits IntKind.u32) r23.2.1))) : Nat) : Int))) ^^^ (BitVec.ofInt (IntKind.bits IntKind.u32) r24.2.1))) : Nat) : Int)) + (IntKind.wrap IntKind.u32 (((BitVec.toNat ((BitVec.ofInt (IntKind.bits IntKind.u32) (IntKind.wrap IntKind.u32 (((BitVec.toNat ((BitVec.ofInt (IntKind.bits IntKind.u32) (IntKind.wrap IntKind.u32 (((BitVec.toNat ((BitVec.ofInt (IntKind.bits IntKind.u32) r13) &&& (BitVec.ofInt (IntKind.bits IntKind.u32) r25))) : Nat) : Int))) ^^^ (BitVec.ofInt (IntKind.bits IntKind.u32) (IntKind.wrap IntKind.u32 (((BitVec.toNat ((BitVec.ofInt (IntKind.bits IntKind.u32) r13) &&& (BitVec.ofInt (IntKind.bits IntKind.u32) r26))) : Nat) : Int))))) : Nat) : Int))) ^^^ (BitVec.ofInt (IntKind.bits IntKind.u32) (IntKind.wrap IntKind.u32 (((BitVec.toNat ((BitVec.ofInt (IntKind.bits IntKind.u32) r27) &&& (BitVec.ofInt (IntKind.bits IntKind.u32) r28))) : Nat) : Int))))) : Nat) : Int))))))) 1 r13) 2 r29) 3 r30) 4 (IntKind.wrap IntKind.u32 (r31 + (IntKind.wrap IntKind.u32 ((IntKind.wrap IntKind.u32 ((IntKind.wrap IntKind.u32 ((IntKind.wrap IntKind.u32 (r17 + (IntKind.wrap IntKind.u32 (((BitVec.toNat ((BitVec.ofInt (IntKind.bits IntKind.u32) (IntKind.wrap IntKind.u32 (((BitVec.toNat ((BitVec.ofInt (IntKind.bits IntKind.u32) r14.2.1) ^^^ (BitVec.ofInt (IntKind.bits IntKind.u32) r15.2.1))) : Nat) : Int))) ^^^ (BitVec.ofInt (IntKind.bits IntKind.u32) r16.2.1))) : Nat) : Int)))) + (IntKind.wrap IntKind.u32 (((BitVec.toNat ((BitVec.ofInt (IntKind.bits IntKind.u32) (IntKind.wrap IntKind.u32 (((BitVec.toNat ((BitVec.ofInt (IntKind.bits IntKind.u32) r12) &&& (BitVec.ofInt (IntKind.bits IntKind.u32) r18))) : Nat) : Int))) ^^^ (BitVec.ofInt (IntKind.bits IntKind.u32) (IntKind.wrap IntKind.u32 (((BitVec.toNat ((BitVec.ofInt (IntKind.bits IntKind.u32) (IntKind.wrap IntKind.u32 (((BitVec.toNat ((BitVec.ofInt (IntKind.bits IntKind.u32) (if (false = true) then (Neg.neg (1 : Int)) else (if (false = true) then (((2 : Int) ^ ((IntKind.bits IntKind.u32) - 1)) - (1 : Int)) else (((2 : Int) ^ (IntKind.bits IntKind.u32)) - (1 : Int))))) ^^^ (BitVec.ofInt (IntKind.bits IntKind.u32) r12))) : Nat) : Int))) &&& (BitVec.ofInt (IntKind.bits IntKind.u32) r19))) : Nat) : Int))))) : Nat) : Int)))) + r20)) + r21))))) 5 r12) 6 r32) 7 r33), ())))))))
  else
    iter (sum_l3 fuel F_rounds F_padded F_high F_rotl ih1) fuel (s3.1, (s3.2.1, ((0 : Int), (s3.2.2.2.1, (s3.2.2.2.2.1, s3.2.2.2.2.2.2)))))

def sum_l1 (fuel : Nat) (F_rounds : (Unit → (Option (Unit × ((List Int) × Unit))))) (F_padded : (((List Int) × Unit) → (Option (Unit × ((List Int) × Unit))))) (F_high : (((List Int) × Unit) → (Option (Unit × (Int × Unit))))) (F_rotl : ((Int × (Int × Unit)) → (Option (Unit × (Int × Unit))))) (ih1 : (((List Int) × ((List Int) × ((List Int) × ((List Int) × Unit)))) → (Option (Unit × ((List Int) × Unit))))) (ih2 : ((List Int) × ((List Int) × (Int × ((List Int) × ((List Int) × ((List Int) × Unit)))))) → Option (Unit × ((List Int) × Unit))) (s2 : ((List Int) × ((List Int) × (Int × ((List Int) × ((List Int) × ((List Int) × Unit))))))) : Option (Unit × ((List Int) × Unit)) :=
  bif (decide ((s2.2.2.1 < (64 : Int)))) then
    bif (decide ((s2.2.2.1 < (16 : Int)))) then
      need (okCut (IntKind.wrap IntKind.i64 ((4 : Int) * s2.2.2.1)) (IntKind.wrap IntKind.i64 ((IntKind.wrap IntKind.i64 ((4 : Int) * s2.2.2.1)) + (4 : Int))) (List.length s2.2.1)) <|
      opt ((F_high ((cut s2.2.1 (Int.toNat (IntKind.wrap IntKind.i64 ((4 : Int) * s2.2.2.1))) (Int.toNat (IntKind.wrap IntKind.i64 ((IntKind.wrap IntKind.i64 ((4 : Int) * s2.2.2.1)) + (4 : Int))))), ()))) fun r3 =>
      need (inI s2.2.2.1 64) <|
      ih2 (s2.1, (s2.2.1, ((IntKind.wrap IntKind.i64 (s2.2.2.1 + (1 : Int))), (s2.2.2.2.1, (s2.2.2.2.2.1, ((List.set s2.2.2.2.2.2.1 (Int.toNat s2.2.2.1) (IntKind.wrap IntKind.u32 r3.2.1)), ()))))))
    else
      need (inI (IntKind.wrap IntKind.i64 (s2.2.2.1 - (15 : Int))) 64) <|
      opt ((s2.2.2.2.2.2.1[(Int.toNat (IntKind.wrap IntKind.i64 (s2.2.2.1 - (15 : Int))))]?)) fun r4 =>
      need (inI (IntKind.wrap IntKind.i64 (s2.2.2.1 - (2 : Int))) 64) <|
      opt ((s2.2.2.2.2.2.1[(Int.toNat (IntKind.wrap IntKind.i64 (s2.2.2.1 - (2 : Int))))]?)) fun r5 =>
      opt ((F_rotl (r4, ((Neg.neg (7 : Int)), ())))) fun r6 =>
      opt ((F_rotl (r4, ((Neg.neg (18 : Int)), ())))) fun r7 =>
      opt ((F_rotl (r5, ((Neg.neg (17 : Int)), ())))) fun r8 =>
      opt ((F_rotl (r5, ((Neg.neg (19 : Int)), ())))) fun r9 =>
      need (inI (IntKind.wrap IntKind.i64 (s2.2.2.1 - (16 : Int))) 64) <|
      opt ((s2.2.2.2.2.2.1[(Int.toNat (IntKind.wrap IntKind.i64 (s2.2.2.1 - (16 : Int))))]?)) fun r10 =>
      need (inI (IntKind.wrap IntKind.i64 (s2.2.2.1 - (7 : Int))) 64) <|
      opt ((s2.2.2.2.2.2.1[(Int.toNat (IntKind.wrap IntKind.i64 (s2.2.2.1 - (7 : Int))))]?)) fun r11 =>
      need (inI s2.2.2.1 64) <|
      ih2 (s2.1, (s2.2.1, ((IntKind.wrap IntKind.i64 (s2.2.2.1 + (1 : Int))), (s2.2.2.2.1, (s2.2.2.2.2.1, ((List.set s2.2.2.2.2.2.1 (Int.toNat s2.2.2.1) (IntKind.wrap IntKind.u32 ((IntKind.wrap IntKind.u32 ((IntKind.wrap IntKind.u32 (r10 + (IntKind.wrap IntKind.u32 (((BitVec.toNat ((BitVec.ofInt (IntKind.bits IntKind.u32) (IntKind.wrap IntKind.u32 (((BitVec.toNat ((BitVec.ofInt (IntKind.bits IntKind.u32) r6.2.1) ^^^ (BitVec.ofInt (IntKind.bits IntKind.u32) r7.2.1))) : Nat) : Int))) ^^^ (BitVec.ofInt (IntKind.bits IntKind.u32) (Int.fdiv r4 ((2 : Int) ^ (min (Int.toNat (3 : Int)) (IntKind.bits IntKind.u32))))))) : Nat) : Int)))) + r11)) + (IntKind.wrap IntKind.u32 (((BitVec.toNat ((BitVec.ofInt (IntKind.bits IntKind.u32) (IntKind.wrap IntKind.u32 (((BitVec.toNat ((BitVec.ofInt (IntKind.bits IntKind.u32) r8.2.1) ^^^ (BitVec.ofInt (IntKind.bits IntKind.u32) r9.2.1))) : Nat) : Int))) ^^^ (BitVec.ofInt (IntKind.bits IntKind.u32) (Int.fdiv r5 ((2 : Int) ^ (min (Int.toNat (10 : Int)) (IntKind.bits IntKind.u32))))))) : Nat) : Int))))), ()))))))
  else
    iter (sum_l2 fuel F_rounds F_padded F_high F_rotl ih1) fuel (s2.1, (s2.2.1, ((0 : Int), (s2.2.2.2.1, (s2.2.2.2.2.1, (s2.2.2.2.2.2.1, (s2.2.2.2.2.1, ())))))))

def sum_l0 (fuel : Nat) (F_rounds : (Unit → (Option (Unit × ((List Int) × Unit))))) (F_padded : (((List Int) × Unit) → (Option (Unit × ((List Int) × Unit))))) (F_high : (((List Int) × Unit) → (Option (Unit × (Int × Unit))))) (F_rotl : ((Int × (Int × Unit)) → (Option (Unit × (Int × Unit))))) (ih1 : ((List Int) × ((List Int) × ((List Int) × ((List Int) × Unit)))) → Option (Unit × ((List Int) × Unit))) (s1 : ((List Int) × ((List Int) × ((List Int) × ((List Int) × Unit))))) : Option (Unit × ((List Int) × Unit)) :=
  bif (decide (((((List.length s1.2.1) : Nat) : Int) > (0 : Int)))) then
    iter (sum_l1 fuel F_rounds F_padded F_high F_rotl ih1) fuel (s1.1, (s1.2.1, ((0 : Int), (s1.2.2.1, (s1.2.2.2.1, ((List.replicate 64 (0 : Int)), ()))))))
  else
    iter (sum_l4 fuel F_rounds F_padded F_high F_rotl) fuel ((0 : Int), (s1.2.2.1, (s1.2.2.2.1, ((List.replicate 32 (0 : Int)), ()))))

def sum (fuel : Nat) (F_rounds : (Unit → (Option (Unit × ((List Int) × Unit))))) (F_padded : (((List Int) × Unit) → (Option (Unit × ((List Int) × Unit))))) (F_high : (((List Int) × Unit) → (Option (Unit × (Int × Unit))))) (F_rotl : ((Int × (Int × Unit)) → (Option (Unit × (Int × Unit))))) (a0 : (List Int)) : Option (Unit × ((List Int) × Unit)) :=
  opt ((F_rounds ())) fun r1 =>
  opt ((F_padded (a0, ()))) fun r2 =>
  iter (sum_l0 fuel F_rounds F_padded F_high F_rotl) fuel (r1.2.1, (r2.2.1, ((List.replicate 32 (0 : Int)), ((List.set (List.set (List.set (List.set (List.set (List.set (List.set (List.set (List.replicate 8 (0 : Int)) 0 (1779033703 : Int)) 1 (3144134277 : Int)) 2 (1013904242 : Int)) 3 (2773480762 : Int)) 4 (1359893119 : Int)) 5 (2600822924 : Int)) 6 (528734635 : Int)) 7 (1541459225 : Int)), ()))))

theorem sum_eq (fuel : Nat) (F_rounds : (Unit) → Option ((Unit) × (List Int × Unit))) (F_padded : (List Int × Unit) → Option ((Unit) × (List Int × Unit))) (F_high : (List Int × Unit) → Option ((Unit) × (Int × Unit))) (F_rotl : (Int × Int × Unit) → Option ((Unit) × (Int × Unit))) (a0 : List Int) : execFn (E_sum F_rounds F_padded F_high F_rotl) fuel Tryz.f143 ps_sum rs_sum ((a0, ()) : DP ps_sum) (fun z => some (z : (Unit) × (List Int × Unit))) = sum fuel F_rounds F_padded F_high F_rotl a0 := by kernel_rfl

def E_bhash (F_bbytes : (List Int × P66 × Unit) → Option ((Unit) × (List Int × Int × Unit))) (F_sum : (List Int × Unit) → Option ((Unit) × (List Int × Unit))) : Env :=
  { tab := lookT tabL, call := lookC [(142, { ps := ps_bbytes, rs := rs_bbytes, F := F_bbytes }), (143, { ps := ps_sum, rs := rs_sum, F := F_sum })], nt := 0, pars := [],
    slots := fun _ => [] }
def bhash (fuel : Nat) (F_bbytes : (((List Int) × (P66 × Unit)) → (Option (Unit × ((List Int) × (Int × Unit)))))) (F_sum : (((List Int) × Unit) → (Option (Unit × ((List Int) × Unit))))) (a0 : (List Int)) (a1 : P66) : Option (Unit × ((List Int) × (Int × Unit))) :=
  opt ((F_bbytes (a0, (a1, ())))) fun r1 =>
  bif (r1.2.2.1 != (0 : Int)) then
    some ((), ((List.replicate 32 (0 : Int)), r1.2.2))
  else
    opt ((F_sum (r1.2.1, ()))) fun r2 =>
    some ((), (r2.2.1, ((0 : Int), ())))

theorem bhash_eq (fuel : Nat) (F_bbytes : (List Int × P66 × Unit) → Option ((Unit) × (List Int × Int × Unit))) (F_sum : (List Int × Unit) → Option ((Unit) × (List Int × Unit))) (a0 : List Int) (a1 : Int × Int × Int × List P74 × Unit) : execFn (E_bhash F_bbytes F_sum) fuel Tryz.f83 ps_bhash rs_bhash ((a0, a1, ()) : DP ps_bhash) (fun z => some (z : (Unit) × (List Int × Int × Unit))) = bhash fuel F_bbytes F_sum a0 a1 := by kernel_rfl

def E_lbetter : Env :=
  { tab := lookT tabL, call := lookC [], nt := 0, pars := [],
    slots := fun _ => [] }
def lbetter (fuel : Nat) (a0 : P158) (a1 : Int) : Option (Unit × (Bool × Unit)) :=
  bif (decide ((a0.2.2.1 < (0 : Int)))) then
    some ((), (true, ()))
  else
    opt ((getI a0.2.1 a1)) fun r1 =>
    opt ((getI a0.2.1 a0.2.2.1)) fun r2 =>
    bif (decide ((r1.1.2.1 > r2.1.2.1))) then
      some ((), (true, ()))
    else
      bif (r1.1.2.1 == r2.1.2.1) then
        none
      else
        some ((), (false, ()))

theorem lbetter_eq (fuel : Nat) (a0 : P35 × List P155 × Int × Unit) (a1 : Int) : execFn (E_lbetter) fuel Tryz.f84 ps_lbetter rs_lbetter ((a0, a1, ()) : DP ps_lbetter) (fun z => some (z : (Unit) × (Bool × Unit))) = lbetter fuel a0 a1 := by kernel_rfl

def E_ladd (F_cturn : (P35 × Unit) → Option ((Unit) × (P35 × Unit))) (F_has : (P158 × Int × Unit) → Option ((Unit) × (Bool × Unit))) (F_ltwin : (P66 × Unit) → Option ((Unit) × (P66 × Unit))) (F_bcheck : (P66 × Unit) → Option ((Unit) × (Int × Unit))) (F_bhash : (List Int × P66 × Unit) → Option ((Unit) × (List Int × Int × Unit))) (F_lbetter : (P158 × Int × Unit) → Option ((Unit) × (Bool × Unit))) : Env :=
  { tab := lookT tabL, call := lookC [(19, { ps := ps_cturn, rs := rs_cturn, F := F_cturn }), (80, { ps := ps_has, rs := rs_has, F := F_has }), (81, { ps := ps_ltwin, rs := rs_ltwin, F := F_ltwin }), (82, { ps := ps_bcheck, rs := rs_bcheck, F := F_bcheck }), (83, { ps := ps_bhash, rs := rs_bhash, F := F_bhash }), (84, { ps := ps_lbetter, rs := rs_lbetter, F := F_lbetter })], nt := 0, pars := [],
    slots := fun b => match b with
    | 1 => [.fix 0 500000 [], .fix 12 12 [], .tmp 88 (.sl .ro (.prod (.int .i64) (.prod (.sl .ro (.int .u8)) .unit))), .tmp 89 (.int .i64), .tmp 90 (.int .i64), .obj 12 (.prod (.prod (.int .i64) (.prod (.int .i64) (.prod (.int .i64) (.prod (.sl .ro (.prod (.int .i64) (.prod (.sl .ro (.int .u8)) .unit))) .unit)))) (.prod (.arr 32 .u8) (.prod (.prod (.prod (.int .i64) (.prod (.int .i64) (.prod (.arr 4 .i64) (.prod (.sl .ro (.int .i64)) .unit)))) (.prod (.int .i64) (.prod (.int .i64) (.prod (.sl .ro (.prod (.int .i64) (.prod (.prod .bool (.prod (.arr 4 .u64) (.prod (.arr 4 .u64) .unit))) (.prod .str (.prod (.int .i64) (.prod .bool (.prod (.sl .ro (.arr 32 .u8)) (.prod (.sl .ro (.prod .bool (.prod (.arr 4 .u64) (.prod (.arr 4 .u64) .unit)))) (.prod .bool (.prod .bool (.prod (.prod .bool (.prod (.arr 4 .u64) (.prod (.arr 4 .u64) .unit))) .unit))))))))))) (.prod (.sl .ro (.int .i64)) (.prod (.int .i64) (.prod (.prod .bool (.prod (.arr 4 .u64) (.prod (.arr 4 .u64) .unit))) .unit))))))) (.prod (.sl .ro (.int .i64)) .unit)))), .obj 500000 (.prod (.prod (.prod (.int .i64) (.prod (.int .i64) (.prod (.arr 4 .i64) (.prod (.sl .ro (.int .i64)) .unit)))) (.prod (.int .i64) (.prod (.int .i64) (.prod (.sl .ro (.prod (.int .i64) (.prod (.prod .bool (.prod (.arr 4 .u64) (.prod (.arr 4 .u64) .unit))) (.prod .str (.prod (.int .i64) (.prod .bool (.prod (.sl .ro (.arr 32 .u8)) (.prod (.sl .ro (.prod .bool (.prod (.arr 4 .u64) (.prod (.arr 4 .u64) .unit)))) (.prod .bool (.prod .bool (.prod (.prod .bool (.prod (.arr 4 .u64) (.prod (.arr 4 .u64) .unit))) .unit))))))))))) (.prod (.sl .ro (.int .i64)) (.prod (.int .i64) (.prod (.prod .bool (.prod (.arr 4 .u64) (.prod (.arr 4 .u64) .unit))) .unit))))))) (.prod (.sl .ownx (.prod (.prod (.int .i64) (.prod (.int .i64) (.prod (.int .i64) (.prod (.sl .ro (.prod (.int .i64) (.prod (.sl .ro (.int .u8)) .unit))) .unit)))) (.prod (.arr 32 .u8) (.prod (.prod (.prod (.int .i64) (.prod (.int .i64) (.prod (.arr 4 .i64) (.prod (.sl .ro (.int .i64)) .unit)))) (.prod (.int .i64) (.prod (.int .i64) (.prod (.sl .ro (.prod (.int .i64) (.prod (.prod .bool (.prod (.arr 4 .u64) (.prod (.arr 4 .u64) .unit))) (.prod .str (.prod (.int .i64) (.prod .bool (.prod (.sl .ro (.arr 32 .u8)) (.prod (.sl .ro (.prod .bool (.prod (.arr 4 .u64) (.prod (.arr 4 .u64) .unit)))) (.prod .bool (.prod .bool (.prod (.prod .bool (.prod (.arr 4 .u64) (.prod (.arr 4 .u64) .unit))) .unit))))))))))) (.prod (.sl .ro (.int .i64)) (.prod (.int .i64) (.prod (.prod .bool (.prod (.arr 4 .u64) (.prod (.arr 4 .u64) .unit))) .unit))))))) (.prod (.sl .ro (.int .i64)) .unit))))) (.prod (.int .i64) .unit)))]
    | _ => [] }
def ladd_l0 (fuel : Nat) (F_cturn : ((P35 × Unit) → (Option (Unit × (P35 × Unit))))) (F_has : ((P158 × (Int × Unit)) → (Option (Unit × (Bool × Unit))))) (F_ltwin : ((P66 × Unit) → (Option (Unit × (P66 × Unit))))) (F_bcheck : ((P66 × Unit) → (Option (Unit × (Int × Unit))))) (F_bhash : (((List Int) × (P66 × Unit)) → (Option (Unit × ((List Int) × (Int × Unit)))))) (F_lbetter : ((P158 × (Int × Unit)) → (Option (Unit × (Bool × Unit))))) (ih1 : ((List P74) × (Int × (Int × (P155 × (P158 × Unit))))) → Option ((P158 × Unit) × (Int × (Int × Unit)))) (s1 : ((List P74) × (Int × (Int × (P155 × (P158 × Unit)))))) : Option ((P158 × Unit) × (Int × (Int × Unit))) :=
  bif (decide ((s1.2.2.1 < s1.2.1))) then
    opt ((getI s1.1 s1.2.2.1)) fun r8 =>
    none
  else
    need (decide ((((List.length s1.2.2.2.2.1.2.1) + (List.length (s1.2.2.2.1 :: ([] : (List P155))))) ≤ 68719476736))) <|
    opt ((F_lbetter ((s1.2.2.2.2.1.1, ((s1.2.2.2.2.1.2.1 ++ (s1.2.2.2.1 :: ([] : (List P155)))), s1.2.2.2.2.1.2.2)), ((IntKind.wrap IntKind.i64 ((((List.length (s1.2.2.2.2.1.2.1 ++ (s1.2.2.2.1 :: ([] : (List P155))))) : Nat) : Int) - (1 : Int))), ())))) fun r9 =>
    bif r9.2.1 then
      some (((s1.2.2.2.2.1.1, ((s1.2.2.2.2.1.2.1 ++ (s1.2.2.2.1 :: ([] : (List P155)))), ((IntKind.wrap IntKind.i64 ((((List.length (s1.2.2.2.2.1.2.1 ++ (s1.2.2.2.1 :: ([] : (List P155))))) : Nat) : Int) - (1 : Int))), ()))), ()), ((IntKind.wrap IntKind.i64 ((((List.length (s1.2.2.2.2.1.2.1 ++ (s1.2.2.2.1 :: ([] : (List P155))))) : Nat) : Int) - (1 : Int))), ((0 : Int), ())))
    else
      some (((s1.2.2.2.2.1.1, ((s1.2.2.2.2.1.2.1 ++ (s1.2.2.2.1 :: ([] : (List P155)))), s1.2.2.2.2.1.2.2)), ()), ((IntKind.wrap IntKind.i64 ((((List.length (s1.2.2.2.2.1.2.1 ++ (s1.2.2.2.1 :: ([] : (List P155))))) : Nat) : Int) - (1 : Int))), ((0 : Int), ())))

def ladd (fuel : Nat) (F_cturn : ((P35 × Unit) → (Option (Unit × (P35 × Unit))))) (F_has : ((P158 × (Int × Unit)) → (Option (Unit × (Bool × Unit))))) (F_ltwin : ((P66 × Unit) → (Option (Unit × (P66 × Unit))))) (F_bcheck : ((P66 × Unit) → (Option (Unit × (Int × Unit))))) (F_bhash : (((List Int) × (P66 × Unit)) → (Option (Unit × ((List Int) × (Int × Unit)))))) (F_lbetter : ((P158 × (Int × Unit)) → (Option (Unit × (Bool × Unit))))) (a0 : P158) (a1 : P66) : Option ((P158 × Unit) × (Int × (Int × Unit))) :=
  opt ((F_bcheck (a1, ()))) fun r1 =>
  bif (r1.2.1 != (0 : Int)) then
    some ((a0, ()), ((0 : Int), r1.2))
  else
    opt ((F_has (a0, (a1.1, ())))) fun r2 =>
    bif r2.2.1 then
      need (inS a1.1 (((List.length a0.2.1) : Nat) : Int)) <|
      opt ((a0.2.1[(Int.toNat a1.1)]?)) fun r3 =>
      bif (a1.1 != (Neg.neg (1 : Int))) then
        opt ((F_has (a0, (a1.1, ())))) fun r4 =>
        bif (not r4.2.1) then
          some ((a0, ()), ((0 : Int), ((18 : Int), ())))
        else
          bif (a1.2.1 != (IntKind.wrap IntKind.i64 (r3.1.2.1 + (1 : Int)))) then
            some ((a0, ()), ((0 : Int), ((18 : Int), ())))
          else
            bif (decide (((((List.length a0.2.1) : Nat) : Int) ≥ (4000 : Int)))) then
              some ((a0, ()), ((0 : Int), ((11 : Int), ())))
            else
              opt ((F_bhash (r3.2.1, (a1, ())))) fun r5 =>
              bif (r5.2.2.1 != (0 : Int)) then
                some ((a0, ()), ((0 : Int), r5.2.2))
              else
                opt ((F_ltwin (a1, ()))) fun r6 =>
                opt ((F_cturn (r3.2.2.1, ()))) fun r7 =>
                iter (ladd_l0 fuel F_cturn F_has F_ltwin F_bcheck F_bhash F_lbetter) fuel (a1.2.2.2.1, ((((List.length a1.2.2.2.1) : Nat) : Int), ((0 : Int), ((r6.2.1, (r5.2.1, (r7.2.1, (([] : (List Int)), ())))), (a0, ())))))
      else
        bif (a1.2.1 != (IntKind.wrap IntKind.i64 (r3.1.2.1 + (1 : Int)))) then
          some ((a0, ()), ((0 : Int), ((18 : Int), ())))
        else
          bif (decide (((((List.length a0.2.1) : Nat) : Int) ≥ (4000 : Int)))) then
            some ((a0, ()), ((0 : Int), ((11 : Int), ())))
          else
            opt ((F_bhash (r3.2.1, (a1, ())))) fun r10 =>
            bif (r10.2.2.1 != (0 : Int)) then
              some ((a0, ()), ((0 : Int), r10.2.2))
            else
              opt ((F_ltwin (a1, ()))) fun r11 =>
              opt ((F_cturn (r3.2.2.1, ()))) fun r12 =>
              iter (ladd_l0 fuel F_cturn F_has F_ltwin F_bcheck F_bhash F_lbetter) fuel (a1.2.2.2.1, ((((List.length a1.2.2.2.1) : Nat) : Int), ((0 : Int), ((r11.2.1, (r10.2.1, (r12.2.1, (([] : (List Int)), ())))), (a0, ())))))
    else
      bif (a1.1 != (Neg.neg (1 : Int))) then
        opt ((F_has (a0, (a1.1, ())))) fun r13 =>
        bif (not r13.2.1) then
          some ((a0, ()), ((0 : Int), ((18 : Int), ())))
        else
          bif (a1.2.1 != (IntKind.wrap IntKind.i64 ((0 : Int) + (1 : Int)))) then
            some ((a0, ()), ((0 : Int), ((18 : Int), ())))
          else
            bif (decide (((((List.length a0.2.1) : Nat) : Int) ≥ (4000 : Int)))) then
              some ((a0, ()), ((0 : Int), ((11 : Int), ())))
            else
              opt ((F_bhash ((List.replicate 32 (0 : Int)), (a1, ())))) fun r14 =>
              bif (r14.2.2.1 != (0 : Int)) then
                some ((a0, ()), ((0 : Int), r14.2.2))
              else
                opt ((F_ltwin (a1, ()))) fun r15 =>
                opt ((F_cturn (a0.1, ()))) fun r16 =>
                iter (ladd_l0 fuel F_cturn F_has F_ltwin F_bcheck F_bhash F_lbetter) fuel (a1.2.2.2.1, ((((List.length a1.2.2.2.1) : Nat) : Int), ((0 : Int), ((r15.2.1, (r14.2.1, (r16.2.1, (([] : (List Int)), ())))), (a0, ())))))
      else
        bif (a1.2.1 != (IntKind.wrap IntKind.i64 ((0 : Int) + (1 : Int)))) then
          some ((a0, ()), ((0 : Int), ((18 : Int), ())))
        else
          bif (decide (((((List.length a0.2.1) : Nat) : Int) ≥ (4000 : Int)))) then
            some ((a0, ()), ((0 : Int), ((11 : Int), ())))
          else
            opt ((F_bhash ((List.replicate 32 (0 : Int)), (a1, ())))) fun r17 =>
            bif (r17.2.2.1 != (0 : Int)) then
              some ((a0, ()), ((0 : Int), r17.2.2))
            else
              opt ((F_ltwin (a1, ()))) fun r18 =>
              opt ((F_cturn (a0.1, ()))) fun r19 =>
              iter (ladd_l0 fuel F_cturn F_has F_ltwin F_bcheck F_bhash F_lbetter) fuel (a1.2.2.2.1, ((((List.length a1.2.2.2.1) : Nat) : Int), ((0 : Int), ((r18.2.1, (r17.2.1, (r19.2.1, (([] : (List Int)), ())))), (a0, ())))))

theorem ladd_eq (fuel : Nat) (F_cturn : (P35 × Unit) → Option ((Unit) × (P35 × Unit))) (F_has : (P158 × Int × Unit) → Option ((Unit) × (Bool × Unit))) (F_ltwin : (P66 × Unit) → Option ((Unit) × (P66 × Unit))) (F_bcheck : (P66 × Unit) → Option ((Unit) × (Int × Unit))) (F_bhash : (List Int × P66 × Unit) → Option ((Unit) × (List Int × Int × Unit))) (F_lbetter : (P158 × Int × Unit) → Option ((Unit) × (Bool × Unit))) (a0 : P35 × List P155 × Int × Unit) (a1 : Int × Int × Int × List P74 × Unit) : execFn (E_ladd F_cturn F_has F_ltwin F_bcheck F_bhash F_lbetter) fuel Tryz.f26 ps_ladd rs_ladd ((a0, a1, ()) : DP ps_ladd) (fun z => some (z : (P158 × Unit) × (Int × Int × Unit))) = ladd fuel F_cturn F_has F_ltwin F_bcheck F_bhash F_lbetter a0 a1 := by kernel_rfl

def E_cnew (F_ctwin : (P35 × Unit) → Option ((Unit) × (P35 × Unit))) (F_pcheck : (P27 × Unit) → Option ((Unit) × (Int × Unit))) (F_pat : (P27 × Int × Unit) → Option ((Unit) × (Int × Unit))) : Env :=
  { tab := lookT tabL, call := lookC [(65, { ps := ps_ctwin, rs := rs_ctwin, F := F_ctwin }), (69, { ps := ps_pcheck, rs := rs_pcheck, F := F_pcheck }), (72, { ps := ps_pat, rs := rs_pat, F := F_pat })], nt := 0, pars := [],
    slots := fun _ => [] }
def cnew (fuel : Nat) (F_ctwin : ((P35 × Unit) → (Option (Unit × (P35 × Unit))))) (F_pcheck : ((P27 × Unit) → (Option (Unit × (Int × Unit))))) (F_pat : ((P27 × (Int × Unit)) → (Option (Unit × (Int × Unit))))) (a0 : P27) : Option (Unit × (P35 × (Int × Unit))) :=
  opt ((F_pcheck (a0, ()))) fun r1 =>
  bif (r1.2.1 != (0 : Int)) then
    some ((), ((((0 : Int), ((0 : Int), ((List.replicate 4 (0 : Int)), (([] : (List Int)), ())))), ((0 : Int), ((0 : Int), (([] : (List P50)), (([] : (List Int)), ((0 : Int), ((false, ((List.replicate 4 (0 : Int)), ((List.replicate 4 (0 : Int)), ()))), ()))))))), r1.2))
  else
    opt ((F_pat (a0, ((0 : Int), ())))) fun r2 =>
    bif (r2.2.1 == (0 : Int)) then
      opt ((F_ctwin ((a0, ((0 : Int), ((6 : Int), (([] : (List P50)), (a0.2.2.2.1, ((0 : Int), ((true, ((List.replicate 4 (0 : Int)), ((List.replicate 4 (0 : Int)), ()))), ()))))))), ()))) fun r3 =>
      some ((), (r3.2.1, ((0 : Int), ())))
    else
      opt ((F_ctwin ((a0, ((0 : Int), (r2.2.1, (([] : (List P50)), (a0.2.2.2.1, ((0 : Int), ((true, ((List.replicate 4 (0 : Int)), ((List.replicate 4 (0 : Int)), ()))), ()))))))), ()))) fun r4 =>
      some ((), (r4.2.1, ((0 : Int), ())))

theorem cnew_eq (fuel : Nat) (F_ctwin : (P35 × Unit) → Option ((Unit) × (P35 × Unit))) (F_pcheck : (P27 × Unit) → Option ((Unit) × (Int × Unit))) (F_pat : (P27 × Int × Unit) → Option ((Unit) × (Int × Unit))) (a0 : Int × Int × List Int × List Int × Unit) : execFn (E_cnew F_ctwin F_pcheck F_pat) fuel Tryz.f55 ps_cnew rs_cnew ((a0, ()) : DP ps_cnew) (fun z => some (z : (Unit) × (P35 × Int × Unit))) = cnew fuel F_ctwin F_pcheck F_pat a0 := by kernel_rfl

def E_lnew (F_cnew : (P27 × Unit) → Option ((Unit) × (P35 × Int × Unit))) : Env :=
  { tab := lookT tabL, call := lookC [(55, { ps := ps_cnew, rs := rs_cnew, F := F_cnew })], nt := 0, pars := [],
    slots := fun _ => [] }
def lnew (fuel : Nat) (F_cnew : ((P27 × Unit) → (Option (Unit × (P35 × (Int × Unit)))))) (a0 : P27) : Option (Unit × ((Option P158) × (Int × Unit))) :=
  opt ((F_cnew (a0, ()))) fun r1 =>
  bif (r1.2.2.1 != (0 : Int)) then
    some ((), (none, r1.2.2))
  else
    some ((), ((some (r1.2.1, (([] : (List P155)), ((Neg.neg (1 : Int)), ())))), ((0 : Int), ())))

theorem lnew_eq (fuel : Nat) (F_cnew : (P27 × Unit) → Option ((Unit) × (P35 × Int × Unit))) (a0 : Int × Int × List Int × List Int × Unit) : execFn (E_lnew F_cnew) fuel Tryz.f38 ps_lnew rs_lnew ((a0, ()) : DP ps_lnew) (fun z => some (z : (Unit) × ((Option P158) × Int × Unit))) = lnew fuel F_cnew a0 := by kernel_rfl

def E_fnew : Env :=
  { tab := lookT tabL, call := lookC [], nt := 0, pars := [],
    slots := fun _ => [] }
def fnew (fuel : Nat) (a0 : Int) : Option (Unit × (P104 × (Int × Unit))) :=
  bif (decide ((a0 < (0 : Int)))) then
    some ((), (((0 : Int), ((0 : Int), ((0 : Int), (false, ())))), ((1 : Int), ())))
  else
    bif (decide ((a0 > (1048576 : Int)))) then
      some ((), (((0 : Int), ((0 : Int), ((0 : Int), (false, ())))), ((1 : Int), ())))
    else
      some ((), ((a0, ((Neg.neg (1 : Int)), ((Neg.neg (1 : Int)), (false, ())))), ((0 : Int), ())))

theorem fnew_eq (fuel : Nat) (a0 : Int) : execFn (E_fnew) fuel Tryz.f47 ps_fnew rs_fnew ((a0, ()) : DP ps_fnew) (fun z => some (z : (Unit) × (P104 × Int × Unit))) = fnew fuel a0 := by kernel_rfl

def E_lblock (F_has : (P158 × Int × Unit) → Option ((Unit) × (Bool × Unit))) (F_ltwin : (P66 × Unit) → Option ((Unit) × (P66 × Unit))) : Env :=
  { tab := lookT tabL, call := lookC [(80, { ps := ps_has, rs := rs_has, F := F_has }), (81, { ps := ps_ltwin, rs := rs_ltwin, F := F_ltwin })], nt := 0, pars := [],
    slots := fun _ => [] }
def lblock (fuel : Nat) (F_has : ((P158 × (Int × Unit)) → (Option (Unit × (Bool × Unit))))) (F_ltwin : ((P66 × Unit) → (Option (Unit × (P66 × Unit))))) (a0 : P158) (a1 : Int) : Option (Unit × (Unit × (Int × Unit))) :=
  opt ((F_has (a0, (a1, ())))) fun r1 =>
  bif (not r1.2.1) then
    some ((), ((), ((5 : Int), ())))
  else
    opt ((getI a0.2.1 a1)) fun r2 =>
    opt ((F_ltwin (r2.1, ()))) fun r3 =>
    some ((), ((), ((0 : Int), ())))

theorem lblock_eq (fuel : Nat) (F_has : (P158 × Int × Unit) → Option ((Unit) × (Bool × Unit))) (F_ltwin : (P66 × Unit) → Option ((Unit) × (P66 × Unit))) (a0 : P35 × List P155 × Int × Unit) (a1 : Int) : execFn (E_lblock F_has F_ltwin) fuel Tryz.f23 ps_lblock rs_lblock ((a0, a1, ()) : DP ps_lblock) (fun z => some (z : (Unit) × (Unit × Int × Unit))) = lblock fuel F_has F_ltwin a0 a1 := by kernel_rfl

def E_reverseI : Env :=
  { tab := lookT tabL, call := lookC [], nt := 0, pars := [],
    slots := fun b => match b with
    | 0 => [.fixo 0 500000, .tmp 2 (.int .i64), .tmp 3 (.int .i64), .row 500000 (.int .i64)]
    | _ => [] }
def reverseI_l0 (fuel : Nat) (ih1 : (Int × P74) → Option (((List Int) × Unit) × Unit)) (s1 : (Int × P74)) : Option (((List Int) × Unit) × Unit) :=
  bif (decide ((s1.1 < s1.2.1))) then
    need (inS s1.2.1 (((List.length s1.2.2.1) : Nat) : Int)) <|
    opt ((s1.2.2.1[(Int.toNat s1.2.1)]?)) fun r1 =>
    need (inS s1.1 (((List.length s1.2.2.1) : Nat) : Int)) <|
    opt ((s1.2.2.1[(Int.toNat s1.1)]?)) fun r2 =>
    need (inS s1.1 (((List.length s1.2.2.1) : Nat) : Int)) <|
    opt ((s1.2.2.1[(Int.toNat s1.1)]?)) fun r3 =>
    need (inS s1.2.1 (((List.length (List.set s1.2.2.1 (Int.toNat s1.1) r1)) : Nat) : Int)) <|
    opt (((List.set s1.2.2.1 (Int.toNat s1.1) r1)[(Int.toNat s1.2.1)]?)) fun r4 =>
    ih1 ((IntKind.wrap IntKind.i64 (s1.1 + (1 : Int))), ((IntKind.wrap IntKind.i64 (s1.2.1 - (1 : Int))), ((List.set (List.set s1.2.2.1 (Int.toNat s1.1) r1) (Int.toNat s1.2.1) r2), ())))
  else
    some (s1.2.2, ())

def reverseI (fuel : Nat) (a0 : (List Int)) : Option (((List Int) × Unit) × Unit) :=
  iter (reverseI_l0 fuel) fuel ((0 : Int), ((IntKind.wrap IntKind.i64 ((((List.length a0) : Nat) : Int) - (1 : Int))), (a0, ())))

theorem reverseI_eq (fuel : Nat) (a0 : List Int) : execFn (E_reverseI) fuel Tryz.f92 ps_reverseI rs_reverseI ((a0, ()) : DP ps_reverseI) (fun z => some (z : (List Int × Unit) × (Unit))) = reverseI fuel a0 := by kernel_rfl

def E_lchain (F_has : (P158 × Int × Unit) → Option ((Unit) × (Bool × Unit))) (F_reverseI : (List Int × Unit) → Option ((List Int × Unit) × (Unit))) : Env :=
  { tab := lookT tabL, call := lookC [(80, { ps := ps_has, rs := rs_has, F := F_has }), (92, { ps := ps_reverseI, rs := rs_reverseI, F := F_reverseI })], nt := 0, pars := [],
    slots := fun b => match b with
    | 0 => [.ept 0 false (.prod (.prod (.prod (.int .i64) (.prod (.int .i64) (.prod (.arr 4 .i64) (.prod (.sl .ro (.int .i64)) .unit)))) (.prod (.int .i64) (.prod (.int .i64) (.prod (.sl .ro (.prod (.int .i64) (.prod (.prod .bool (.prod (.arr 4 .u64) (.prod (.arr 4 .u64) .unit))) (.prod .str (.prod (.int .i64) (.prod .bool (.prod (.sl .ro (.arr 32 .u8)) (.prod (.sl .ro (.prod .bool (.prod (.arr 4 .u64) (.prod (.arr 4 .u64) .unit)))) (.prod .bool (.prod .bool (.prod (.prod .bool (.prod (.arr 4 .u64) (.prod (.arr 4 .u64) .unit))) .unit))))))))))) (.prod (.sl .ro (.int .i64)) (.prod (.int .i64) (.prod (.prod .bool (.prod (.arr 4 .u64) (.prod (.arr 4 .u64) .unit))) .unit))))))) (.prod (.sl .ro (.prod (.prod (.int .i64) (.prod (.int .i64) (.prod (.int .i64) (.prod (.sl .ro (.prod (.int .i64) (.prod (.sl .ro (.int .u8)) .unit))) .unit)))) (.prod (.arr 32 .u8) (.prod (.prod (.prod (.int .i64) (.prod (.int .i64) (.prod (.arr 4 .i64) (.prod (.sl .ro (.int .i64)) .unit)))) (.prod (.int .i64) (.prod (.int .i64) (.prod (.sl .ro (.prod (.int .i64) (.prod (.prod .bool (.prod (.arr 4 .u64) (.prod (.arr 4 .u64) .unit))) (.prod .str (.prod (.int .i64) (.prod .bool (.prod (.sl .ro (.arr 32 .u8)) (.prod (.sl .ro (.prod .bool (.prod (.arr 4 .u64) (.prod (.arr 4 .u64) .unit)))) (.prod .bool (.prod .bool (.prod (.prod .bool (.prod (.arr 4 .u64) (.prod (.arr 4 .u64) .unit))) .unit))))))))))) (.prod (.sl .ro (.int .i64)) (.prod (.int .i64) (.prod (.prod .bool (.prod (.arr 4 .u64) (.prod (.arr 4 .u64) .unit))) .unit))))))) (.prod (.sl .ro (.int .i64)) .unit))))) (.prod (.int .i64) .unit))), .tmp 1 (.int .i64), .tmp 6 (.sl .own (.int .i64))]
    | _ => [] }
def lchain_l0 (fuel : Nat) (F_has : ((P158 × (Int × Unit)) → (Option (Unit × (Bool × Unit))))) (F_reverseI : (((List Int) × Unit) → (Option (((List Int) × Unit) × Unit)))) (ih1 : (P158 × P74) → Option (Unit × ((List Int) × (Int × Unit)))) (s1 : (P158 × P74)) : Option (Unit × ((List Int) × (Int × Unit))) :=
  bif (decide ((s1.2.1 ≥ (0 : Int)))) then
    need (decide ((((List.length s1.2.2.1) + (List.length (s1.2.1 :: ([] : (List Int))))) ≤ 68719476736))) <|
    opt ((getI s1.1.2.1 s1.2.1)) fun r2 =>
    ih1 (s1.1, (r2.1.1, ((s1.2.2.1 ++ (s1.2.1 :: ([] : (List Int)))), ())))
  else
    opt ((F_reverseI s1.2.2)) fun r3 =>
    some ((), (r3.1.1, ((0 : Int), ())))

def lchain (fuel : Nat) (F_has : ((P158 × (Int × Unit)) → (Option (Unit × (Bool × Unit))))) (F_reverseI : (((List Int) × Unit) → (Option (((List Int) × Unit) × Unit)))) (a0 : P158) (a1 : Int) : Option (Unit × ((List Int) × (Int × Unit))) :=
  bif (a1 != (Neg.neg (1 : Int))) then
    opt ((F_has (a0, (a1, ())))) fun r1 =>
    bif (not r1.2.1) then
      some ((), (([] : (List Int)), ((5 : Int), ())))
    else
      iter (lchain_l0 fuel F_has F_reverseI) fuel (a0, (a1, (([] : (List Int)), ())))
  else
    iter (lchain_l0 fuel F_has F_reverseI) fuel (a0, (a1, (([] : (List Int)), ())))

theorem lchain_eq (fuel : Nat) (F_has : (P158 × Int × Unit) → Option ((Unit) × (Bool × Unit))) (F_reverseI : (List Int × Unit) → Option ((List Int × Unit) × (Unit))) (a0 : P35 × List P155 × Int × Unit) (a1 : Int) : execFn (E_lchain F_has F_reverseI) fuel Tryz.f31 ps_lchain rs_lchain ((a0, a1, ()) : DP ps_lchain) (fun z => some (z : (Unit) × (List Int × Int × Unit))) = lchain fuel F_has F_reverseI a0 a1 := by kernel_rfl

def E_lheight (F_has : (P158 × Int × Unit) → Option ((Unit) × (Bool × Unit))) : Env :=
  { tab := lookT tabL, call := lookC [(80, { ps := ps_has, rs := rs_has, F := F_has })], nt := 0, pars := [],
    slots := fun _ => [] }
def lheight (fuel : Nat) (F_has : ((P158 × (Int × Unit)) → (Option (Unit × (Bool × Unit))))) (a0 : P158) (a1 : Int) : Option (Unit × (Int × Unit)) :=
  opt ((F_has (a0, (a1, ())))) fun r1 =>
  bif (not r1.2.1) then
    some ((), ((0 : Int), ()))
  else
    opt ((getI a0.2.1 a1)) fun r2 =>
    some ((), (r2.1.2.1, ()))

theorem lheight_eq (fuel : Nat) (F_has : (P158 × Int × Unit) → Option ((Unit) × (Bool × Unit))) (a0 : P35 × List P155 × Int × Unit) (a1 : Int) : execFn (E_lheight F_has) fuel Tryz.f93 ps_lheight rs_lheight ((a0, a1, ()) : DP ps_lheight) (fun z => some (z : (Unit) × (Int × Unit))) = lheight fuel F_has a0 a1 := by kernel_rfl

def E_lcommon (F_has : (P158 × Int × Unit) → Option ((Unit) × (Bool × Unit))) (F_lheight : (P158 × Int × Unit) → Option ((Unit) × (Int × Unit))) : Env :=
  { tab := lookT tabL, call := lookC [(80, { ps := ps_has, rs := rs_has, F := F_has }), (93, { ps := ps_lheight, rs := rs_lheight, F := F_lheight })], nt := 0, pars := [],
    slots := fun b => match b with
    | 0 => [.ept 0 false (.prod (.prod (.prod (.int .i64) (.prod (.int .i64) (.prod (.arr 4 .i64) (.prod (.sl .ro (.int .i64)) .unit)))) (.prod (.int .i64) (.prod (.int .i64) (.prod (.sl .ro (.prod (.int .i64) (.prod (.prod .bool (.prod (.arr 4 .u64) (.prod (.arr 4 .u64) .unit))) (.prod .str (.prod (.int .i64) (.prod .bool (.prod (.sl .ro (.arr 32 .u8)) (.prod (.sl .ro (.prod .bool (.prod (.arr 4 .u64) (.prod (.arr 4 .u64) .unit)))) (.prod .bool (.prod .bool (.prod (.prod .bool (.prod (.arr 4 .u64) (.prod (.arr 4 .u64) .unit))) .unit))))))))))) (.prod (.sl .ro (.int .i64)) (.prod (.int .i64) (.prod (.prod .bool (.prod (.arr 4 .u64) (.prod (.arr 4 .u64) .unit))) .unit))))))) (.prod (.sl .ro (.prod (.prod (.int .i64) (.prod (.int .i64) (.prod (.int .i64) (.prod (.sl .ro (.prod (.int .i64) (.prod (.sl .ro (.int .u8)) .unit))) .unit)))) (.prod (.arr 32 .u8) (.prod (.prod (.prod (.int .i64) (.prod (.int .i64) (.prod (.arr 4 .i64) (.prod (.sl .ro (.int .i64)) .unit)))) (.prod (.int .i64) (.prod (.int .i64) (.prod (.sl .ro (.prod (.int .i64) (.prod (.prod .bool (.prod (.arr 4 .u64) (.prod (.arr 4 .u64) .unit))) (.prod .str (.prod (.int .i64) (.prod .bool (.prod (.sl .ro (.arr 32 .u8)) (.prod (.sl .ro (.prod .bool (.prod (.arr 4 .u64) (.prod (.arr 4 .u64) .unit)))) (.prod .bool (.prod .bool (.prod (.prod .bool (.prod (.arr 4 .u64) (.prod (.arr 4 .u64) .unit))) .unit))))))))))) (.prod (.sl .ro (.int .i64)) (.prod (.int .i64) (.prod (.prod .bool (.prod (.arr 4 .u64) (.prod (.arr 4 .u64) .unit))) .unit))))))) (.prod (.sl .ro (.int .i64)) .unit))))) (.prod (.int .i64) .unit))), .tmp 1 (.int .i64), .tmp 2 (.int .i64)]
    | _ => [] }
def lcommon_l0 (fuel : Nat) (F_has : ((P158 × (Int × Unit)) → (Option (Unit × (Bool × Unit))))) (F_lheight : ((P158 × (Int × Unit)) → (Option (Unit × (Int × Unit))))) (ih1 : (P158 × (Int × (Int × Unit))) → Option (Unit × (Int × (Int × Unit)))) (s1 : (P158 × (Int × (Int × Unit)))) : Option (Unit × (Int × (Int × Unit))) :=
  bif (s1.2.1 != s1.2.2.1) then
    opt ((F_lheight (s1.1, (s1.2.1, ())))) fun r3 =>
    opt ((F_lheight (s1.1, s1.2.2))) fun r4 =>
    bif (decide ((r3.2.1 ≥ r4.2.1))) then
      opt ((getI s1.1.2.1 s1.2.1)) fun r5 =>
      ih1 (s1.1, (r5.1.1, s1.2.2))
    else
      opt ((getI s1.1.2.1 s1.2.2.1)) fun r6 =>
      ih1 (s1.1, (s1.2.1, (r6.1.1, ())))
  else
    some ((), (s1.2.1, ((0 : Int), ())))

def lcommon (fuel : Nat) (F_has : ((P158 × (Int × Unit)) → (Option (Unit × (Bool × Unit))))) (F_lheight : ((P158 × (Int × Unit)) → (Option (Unit × (Int × Unit))))) (a0 : P158) (a1 : Int) (a2 : Int) : Option (Unit × (Int × (Int × Unit))) :=
  bif (a1 != (Neg.neg (1 : Int))) then
    opt ((F_has (a0, (a1, ())))) fun r1 =>
    bif (not r1.2.1) then
      some ((), ((0 : Int), ((5 : Int), ())))
    else
      bif (a2 != (Neg.neg (1 : Int))) then
        opt ((F_has (a0, (a2, ())))) fun r2 =>
        bif (not r2.2.1) then
          some ((), ((0 : Int), ((5 : Int), ())))
        else
          iter (lcommon_l0 fuel F_has F_lheight) fuel (a0, (a1, (a2, ())))
      else
        iter (lcommon_l0 fuel F_has F_lheight) fuel (a0, (a1, (a2, ())))
  else
    bif (a2 != (Neg.neg (1 : Int))) then
      opt ((F_has (a0, (a2, ())))) fun r7 =>
      bif (not r7.2.1) then
        some ((), ((0 : Int), ((5 : Int), ())))
      else
        iter (lcommon_l0 fuel F_has F_lheight) fuel (a0, (a1, (a2, ())))
    else
      iter (lcommon_l0 fuel F_has F_lheight) fuel (a0, (a1, (a2, ())))

theorem lcommon_eq (fuel : Nat) (F_has : (P158 × Int × Unit) → Option ((Unit) × (Bool × Unit))) (F_lheight : (P158 × Int × Unit) → Option ((Unit) × (Int × Unit))) (a0 : P35 × List P155 × Int × Unit) (a1 : Int) (a2 : Int) : execFn (E_lcommon F_has F_lheight) fuel Tryz.f35 ps_lcommon rs_lcommon ((a0, a1, a2, ()) : DP ps_lcommon) (fun z => some (z : (Unit) × (Int × Int × Unit))) = lcommon fuel F_has F_lheight a0 a1 a2 := by kernel_rfl

def E_indexI : Env :=
  { tab := lookT tabL, call := lookC [], nt := 0, pars := [],
    slots := fun b => match b with
    | 0 => [.tmp 0 (.sl .ro (.int .i64)), .tmp 1 (.int .i64), .tmp 7 (.int .i64), .tmp 8 (.int .i64)]
    | _ => [] }
def indexI_l0 (fuel : Nat) (ih1 : ((List Int) × (Int × (Int × (Int × Unit)))) → Option (Unit × (Int × Unit))) (s1 : ((List Int) × (Int × (Int × (Int × Unit))))) : Option (Unit × (Int × Unit)) :=
  bif (decide ((s1.2.2.2.1 < s1.2.2.1))) then
    opt ((getI s1.1 s1.2.2.2.1)) fun r1 =>
    bif (s1.2.1 == r1) then
      some ((), s1.2.2.2)
    else
      ih1 (s1.1, (s1.2.1, (s1.2.2.1, ((IntKind.wrap IntKind.i64 (s1.2.2.2.1 + (1 : Int))), ()))))
  else
    some ((), ((Neg.neg (1 : Int)), ()))

def indexI (fuel : Nat) (a0 : (List Int)) (a1 : Int) : Option (Unit × (Int × Unit)) :=
  iter (indexI_l0 fuel) fuel (a0, (a1, ((((List.length a0) : Nat) : Int), ((0 : Int), ()))))

theorem indexI_eq (fuel : Nat) (a0 : List Int) (a1 : Int) : execFn (E_indexI) fuel Tryz.f99 ps_indexI rs_indexI ((a0, a1, ()) : DP ps_indexI) (fun z => some (z : (Unit) × (Int × Unit))) = indexI fuel a0 a1 := by kernel_rfl

def E_containsI (F_indexI : (List Int × Int × Unit) → Option ((Unit) × (Int × Unit))) : Env :=
  { tab := lookT tabL, call := lookC [(99, { ps := ps_indexI, rs := rs_indexI, F := F_indexI })], nt := 0, pars := [],
    slots := fun _ => [] }
def containsI (fuel : Nat) (F_indexI : (((List Int) × (Int × Unit)) → (Option (Unit × (Int × Unit))))) (a0 : (List Int)) (a1 : Int) : Option (Unit × (Bool × Unit)) :=
  opt ((F_indexI (a0, (a1, ())))) fun r1 =>
  some ((), ((decide ((r1.2.1 ≥ (0 : Int)))), ()))

theorem containsI_eq (fuel : Nat) (F_indexI : (List Int × Int × Unit) → Option ((Unit) × (Int × Unit))) (a0 : List Int) (a1 : Int) : execFn (E_containsI F_indexI) fuel Tryz.f98 ps_containsI rs_containsI ((a0, a1, ()) : DP ps_containsI) (fun z => some (z : (Unit) × (Bool × Unit))) = containsI fuel F_indexI a0 a1 := by kernel_rfl

def E_fcheck (F_lchain : (P158 × Int × Unit) → Option ((Unit) × (List Int × Int × Unit))) (F_containsI : (List Int × Int × Unit) → Option ((Unit) × (Bool × Unit))) : Env :=
  { tab := lookT tabL, call := lookC [(31, { ps := ps_lchain, rs := rs_lchain, F := F_lchain }), (98, { ps := ps_containsI, rs := rs_containsI, F := F_containsI })], nt := 0, pars := [],
    slots := fun _ => [] }
def fcheck (fuel : Nat) (F_lchain : ((P158 × (Int × Unit)) → (Option (Unit × ((List Int) × (Int × Unit)))))) (F_containsI : (((List Int) × (Int × Unit)) → (Option (Unit × (Bool × Unit))))) (a0 : P158) (a1 : P104) : Option (Unit × (Int × Unit)) :=
  opt ((F_lchain (a0, (a1.2.1, ())))) fun r1 =>
  bif (decide ((a1.1 < (0 : Int)))) then
    some ((), ((1 : Int), ()))
  else
    bif (decide ((a1.1 > (1048576 : Int)))) then
      some ((), ((1 : Int), ()))
    else
      bif (r1.2.2.1 != (0 : Int)) then
        some ((), ((1 : Int), ()))
      else
        bif (a1.2.2.1 != (Neg.neg (1 : Int))) then
          opt ((F_containsI (r1.2.1, (a1.2.2.1, ())))) fun r2 =>
          bif (not r2.2.1) then
            some ((), ((1 : Int), ()))
          else
            some ((), ((0 : Int), ()))
        else
          some ((), ((0 : Int), ()))

theorem fcheck_eq (fuel : Nat) (F_lchain : (P158 × Int × Unit) → Option ((Unit) × (List Int × Int × Unit))) (F_containsI : (List Int × Int × Unit) → Option ((Unit) × (Bool × Unit))) (a0 : P35 × List P155 × Int × Unit) (a1 : Int × Int × Int × Bool × Unit) : execFn (E_fcheck F_lchain F_containsI) fuel Tryz.f49 ps_fcheck rs_fcheck ((a0, a1, ()) : DP ps_fcheck) (fun z => some (z : (Unit) × (Int × Unit))) = fcheck fuel F_lchain F_containsI a0 a1 := by kernel_rfl

def E_fsee (F_lblock : (P158 × Int × Unit) → Option ((Unit) × (Unit × Int × Unit))) (F_lchain : (P158 × Int × Unit) → Option ((Unit) × (List Int × Int × Unit))) (F_lcommon : (P158 × Int × Int × Unit) → Option ((Unit) × (Int × Int × Unit))) (F_fcheck : (P158 × P104 × Unit) → Option ((Unit) × (Int × Unit))) (F_containsI : (List Int × Int × Unit) → Option ((Unit) × (Bool × Unit))) (F_indexI : (List Int × Int × Unit) → Option ((Unit) × (Int × Unit))) (F_cloneI : (List Int × Unit) → Option ((Unit) × (List Int × Unit))) : Env :=
  { tab := lookT tabL, call := lookC [(23, { ps := ps_lblock, rs := rs_lblock, F := F_lblock }), (31, { ps := ps_lchain, rs := rs_lchain, F := F_lchain }), (35, { ps := ps_lcommon, rs := rs_lcommon, F := F_lcommon }), (49, { ps := ps_fcheck, rs := rs_fcheck, F := F_fcheck }), (98, { ps := ps_containsI, rs := rs_containsI, F := F_containsI }), (99, { ps := ps_indexI, rs := rs_indexI, F := F_indexI }), (100, { ps := ps_cloneI, rs := rs_cloneI, F := F_cloneI })], nt := 0, pars := [],
    slots := fun _ => [] }
def fsee (fuel : Nat) (F_lblock : ((P158 × (Int × Unit)) → (Option (Unit × (Unit × (Int × Unit)))))) (F_lchain : ((P158 × (Int × Unit)) → (Option (Unit × ((List Int) × (Int × Unit)))))) (F_lcommon : ((P158 × (Int × (Int × Unit))) → (Option (Unit × (Int × (Int × Unit)))))) (F_fcheck : ((P158 × (P104 × Unit)) → (Option (Unit × (Int × Unit))))) (F_containsI : (((List Int) × (Int × Unit)) → (Option (Unit × (Bool × Unit))))) (F_indexI : (((List Int) × (Int × Unit)) → (Option (Unit × (Int × Unit))))) (F_cloneI : (((List Int) × Unit) → (Option (Unit × ((List Int) × Unit))))) (a0 : P158) (a1 : P104) (a2 : Int) : Option (Unit × (P104 × ((List Int) × (Int × Unit)))) :=
  opt ((F_fcheck (a0, (a1, ())))) fun r1 =>
  bif (r1.2.1 != (0 : Int)) then
    some ((), (((0 : Int), ((0 : Int), ((0 : Int), (false, ())))), (([] : (List Int)), r1.2)))
  else
    bif a1.2.2.2.1 then
      some ((), (((0 : Int), ((0 : Int), ((0 : Int), (false, ())))), (([] : (List Int)), ((17 : Int), ()))))
    else
      opt ((F_lblock (a0, (a2, ())))) fun r2 =>
      bif (r2.2.2.1 != (0 : Int)) then
        some ((), (((0 : Int), ((0 : Int), ((0 : Int), (false, ())))), (([] : (List Int)), r2.2.2)))
      else
        opt ((F_lchain (a0, (a1.2.1, ())))) fun r3 =>
        opt ((F_lchain (a0, (a2, ())))) fun r4 =>
        opt ((F_lcommon (a0, (a1.2.1, (a2, ()))))) fun r5 =>
        opt ((F_lchain (a0, (r5.2.1, ())))) fun r6 =>
        bif (decide (((IntKind.wrap IntKind.i64 ((((List.length r3.2.1) : Nat) : Int) - (((List.length r6.2.1) : Nat) : Int))) > a1.1))) then
          some ((), ((a1.1, (a1.2.1, (a1.2.2.1, (true, ())))), (([] : (List Int)), ((16 : Int), ()))))
        else
          bif (a1.2.2.1 != (Neg.neg (1 : Int))) then
            opt ((F_containsI (r4.2.1, (a1.2.2.1, ())))) fun r7 =>
            bif (not r7.2.1) then
              some ((), ((a1.1, (a1.2.1, (a1.2.2.1, (true, ())))), (([] : (List Int)), ((16 : Int), ()))))
            else
              opt ((F_indexI (r4.2.1, (a1.2.2.1, ())))) fun r8 =>
              bif (decide (((IntKind.wrap IntKind.i64 ((((List.length r4.2.1) : Nat) : Int) - a1.1)) > (IntKind.wrap IntKind.i64 ((1 : Int) + r8.2.1))))) then
                need (okCut (IntKind.wrap IntKind.i64 ((1 : Int) + r8.2.1)) (IntKind.wrap IntKind.i64 ((((List.length r4.2.1) : Nat) : Int) - a1.1)) (List.length r4.2.1)) <|
                opt ((F_cloneI ((cut r4.2.1 (Int.toNat (IntKind.wrap IntKind.i64 ((1 : Int) + r8.2.1))) (Int.toNat (IntKind.wrap IntKind.i64 ((((List.length r4.2.1) : Nat) : Int) - a1.1)))), ()))) fun r9 =>
                opt ((getI r4.2.1 (IntKind.wrap IntKind.i64 ((IntKind.wrap IntKind.i64 ((((List.length r4.2.1) : Nat) : Int) - a1.1)) - (1 : Int))))) fun r10 =>
                some ((), ((a1.1, (a2, (r10, a1.2.2.2))), (r9.2.1, ((0 : Int), ()))))
              else
                some ((), ((a1.1, (a2, a1.2.2)), (([] : (List Int)), ((0 : Int), ()))))
          else
            opt ((F_indexI (r4.2.1, (a1.2.2.1, ())))) fun r11 =>
            bif (decide (((IntKind.wrap IntKind.i64 ((((List.length r4.2.1) : Nat) : Int) - a1.1)) > (IntKind.wrap IntKind.i64 ((1 : Int) + r11.2.1))))) then
              need (okCut (IntKind.wrap IntKind.i64 ((1 : Int) + r11.2.1)) (IntKind.wrap IntKind.i64 ((((List.length r4.2.1) : Nat) : Int) - a1.1)) (List.length r4.2.1)) <|
              opt ((F_cloneI ((cut r4.2.1 (Int.toNat (IntKind.wrap IntKind.i64 ((1 : Int) + r11.2.1))) (Int.toNat (IntKind.wrap IntKind.i64 ((((List.length r4.2.1) : Nat) : Int) - a1.1)))), ()))) fun r12 =>
              opt ((getI r4.2.1 (IntKind.wrap IntKind.i64 ((IntKind.wrap IntKind.i64 ((((List.length r4.2.1) : Nat) : Int) - a1.1)) - (1 : Int))))) fun r13 =>
              some ((), ((a1.1, (a2, (r13, a1.2.2.2))), (r12.2.1, ((0 : Int), ()))))
            else
              some ((), ((a1.1, (a2, a1.2.2)), (([] : (List Int)), ((0 : Int), ()))))

theorem fsee_eq (fuel : Nat) (F_lblock : (P158 × Int × Unit) → Option ((Unit) × (Unit × Int × Unit))) (F_lchain : (P158 × Int × Unit) → Option ((Unit) × (List Int × Int × Unit))) (F_lcommon : (P158 × Int × Int × Unit) → Option ((Unit) × (Int × Int × Unit))) (F_fcheck : (P158 × P104 × Unit) → Option ((Unit) × (Int × Unit))) (F_containsI : (List Int × Int × Unit) → Option ((Unit) × (Bool × Unit))) (F_indexI : (List Int × Int × Unit) → Option ((Unit) × (Int × Unit))) (F_cloneI : (List Int × Unit) → Option ((Unit) × (List Int × Unit))) (a0 : P35 × List P155 × Int × Unit) (a1 : Int × Int × Int × Bool × Unit) (a2 : Int) : execFn (E_fsee F_lblock F_lchain F_lcommon F_fcheck F_containsI F_indexI F_cloneI) fuel Tryz.f51 ps_fsee rs_fsee ((a0, a1, a2, ()) : DP ps_fsee) (fun z => some (z : (Unit) × (P104 × List Int × Int × Unit))) = fsee fuel F_lblock F_lchain F_lcommon F_fcheck F_containsI F_indexI F_cloneI a0 a1 a2 := by kernel_rfl

def E_kints : Env :=
  { tab := lookT tabL, call := lookC [], nt := 0, pars := [],
    slots := fun b => match b with
    | 0 => [.tmp 0 (.sl .ro (.int .i64)), .tmp 1 (.sl .ro (.int .i64)), .tmp 5 (.int .i64)]
    | _ => [] }
def kints_l0 (fuel : Nat) (ih1 : ((List Int) × ((List Int) × (Int × Unit))) → Option (Unit × (Bool × Unit))) (s1 : ((List Int) × ((List Int) × (Int × Unit)))) : Option (Unit × (Bool × Unit)) :=
  bif (decide ((s1.2.2.1 < (((List.length s1.1) : Nat) : Int)))) then
    opt ((getI s1.1 s1.2.2.1)) fun r1 =>
    opt ((getI s1.2.1 s1.2.2.1)) fun r2 =>
    bif (r1 != r2) then
      some ((), (false, ()))
    else
      ih1 (s1.1, (s1.2.1, ((IntKind.wrap IntKind.i64 (s1.2.2.1 + (1 : Int))), ())))
  else
    some ((), (true, ()))

def kints (fuel : Nat) (a0 : (List Int)) (a1 : (List Int)) : Option (Unit × (Bool × Unit)) :=
  bif ((((List.length a0) : Nat) : Int) != (((List.length a1) : Nat) : Int)) then
    some ((), (false, ()))
  else
    iter (kints_l0 fuel) fuel (a0, (a1, ((0 : Int), ())))

theorem kints_eq (fuel : Nat) (a0 : List Int) (a1 : List Int) : execFn (E_kints) fuel Tryz.f32 ps_kints rs_kints ((a0, a1, ()) : DP ps_kints) (fun z => some (z : (Unit) × (Bool × Unit))) = kints fuel a0 a1 := by kernel_rfl

def E_wakes18 (F_ladd : (P158 × P66 × Unit) → Option ((P158 × Unit) × (Int × Int × Unit))) (F_kints : (List Int × List Int × Unit) → Option ((Unit) × (Bool × Unit))) (F_lnew : (P27 × Unit) → Option ((Unit) × ((Option P158) × Int × Unit))) (F_fnew : (Int × Unit) → Option ((Unit) × (P104 × Int × Unit))) (F_fsee : (P158 × P104 × Int × Unit) → Option ((Unit) × (P104 × List Int × Int × Unit))) : Env :=
  { tab := lookT tabL, call := lookC [(26, { ps := ps_ladd, rs := rs_ladd, F := F_ladd }), (32, { ps := ps_kints, rs := rs_kints, F := F_kints }), (38, { ps := ps_lnew, rs := rs_lnew, F := F_lnew }), (47, { ps := ps_fnew, rs := rs_fnew, F := F_fnew }), (51, { ps := ps_fsee, rs := rs_fsee, F := F_fsee })], nt := 0, pars := [],
    slots := fun b => match b with
    | 0 => [.fix 1 100640 [], .fix 3 3 [], .tmp 5 (.int .i64), .obj 100640 (.prod (.prod (.prod (.int .i64) (.prod (.int .i64) (.prod (.arr 4 .i64) (.prod (.sl .ro (.int .i64)) .unit)))) (.prod (.int .i64) (.prod (.int .i64) (.prod (.sl .ro (.prod (.int .i64) (.prod (.prod .bool (.prod (.arr 4 .u64) (.prod (.arr 4 .u64) .unit))) (.prod .str (.prod (.int .i64) (.prod .bool (.prod (.sl .ro (.arr 32 .u8)) (.prod (.sl .ro (.prod .bool (.prod (.arr 4 .u64) (.prod (.arr 4 .u64) .unit)))) (.prod .bool (.prod .bool (.prod (.prod .bool (.prod (.arr 4 .u64) (.prod (.arr 4 .u64) .unit))) .unit))))))))))) (.prod (.sl .ro (.int .i64)) (.prod (.int .i64) (.prod (.prod .bool (.prod (.arr 4 .u64) (.prod (.arr 4 .u64) .unit))) .unit))))))) (.prod (.sl .ownx (.prod (.prod (.int .i64) (.prod (.int .i64) (.prod (.int .i64) (.prod (.sl .ro (.prod (.int .i64) (.prod (.sl .ro (.int .u8)) .unit))) .unit)))) (.prod (.arr 32 .u8) (.prod (.prod (.prod (.int .i64) (.prod (.int .i64) (.prod (.arr 4 .i64) (.prod (.sl .ro (.int .i64)) .unit)))) (.prod (.int .i64) (.prod (.int .i64) (.prod (.sl .ro (.prod (.int .i64) (.prod (.prod .bool (.prod (.arr 4 .u64) (.prod (.arr 4 .u64) .unit))) (.prod .str (.prod (.int .i64) (.prod .bool (.prod (.sl .ro (.arr 32 .u8)) (.prod (.sl .ro (.prod .bool (.prod (.arr 4 .u64) (.prod (.arr 4 .u64) .unit)))) (.prod .bool (.prod .bool (.prod (.prod .bool (.prod (.arr 4 .u64) (.prod (.arr 4 .u64) .unit))) .unit))))))))))) (.prod (.sl .ro (.int .i64)) (.prod (.int .i64) (.prod (.prod .bool (.prod (.arr 4 .u64) (.prod (.arr 4 .u64) .unit))) .unit))))))) (.prod (.sl .ro (.int .i64)) .unit))))) (.prod (.int .i64) .unit))), .obj 3 (.prod (.int .i64) (.prod (.int .i64) (.prod (.int .i64) (.prod .bool .unit))))]
    | _ => [] }
def wakes18_l0 (fuel : Nat) (F_ladd : ((P158 × (P66 × Unit)) → (Option ((P158 × Unit) × (Int × (Int × Unit)))))) (F_kints : (((List Int) × ((List Int) × Unit)) → (Option (Unit × (Bool × Unit))))) (F_lnew : ((P27 × Unit) → (Option (Unit × ((Option P158) × (Int × Unit)))))) (F_fnew : ((Int × Unit) → (Option (Unit × (P104 × (Int × Unit)))))) (F_fsee : ((P158 × (P104 × (Int × Unit))) → (Option (Unit × (P104 × ((List Int) × (Int × Unit))))))) (ih1 : (Int × (P158 × (P104 × Unit))) → Option (Unit × (Bool × Unit))) (s1 : (Int × (P158 × (P104 × Unit)))) : Option (Unit × (Bool × Unit)) :=
  bif (decide ((s1.1 < (5 : Int)))) then
    opt ((F_ladd (s1.2.1, (((IntKind.wrap IntKind.i64 (s1.1 - (1 : Int))), ((IntKind.wrap IntKind.i64 (s1.1 + (1 : Int))), ((0 : Int), (([] : (List P74)), ())))), ())))) fun r5 =>
    ih1 ((IntKind.wrap IntKind.i64 (s1.1 + (1 : Int))), (r5.1.1, s1.2.2))
  else
    opt ((F_fsee (s1.2.1, (s1.2.2.1, ((4 : Int), ()))))) fun r6 =>
    bif (r6.2.2.2.1 == (0 : Int)) then
      opt ((F_kints (r6.2.2.1, (((0 : Int) :: ((1 : Int) :: ((2 : Int) :: ([] : (List Int))))), ())))) fun r7 =>
      bif r7.2.1 then
        bif (r6.2.1.2.1 == (4 : Int)) then
          some ((), ((r6.2.1.2.2.1 == (2 : Int)), ()))
        else
          some ((), (false, ()))
      else
        some ((), (false, ()))
    else
      some ((), (false, ()))

def wakes18 (fuel : Nat) (F_ladd : ((P158 × (P66 × Unit)) → (Option ((P158 × Unit) × (Int × (Int × Unit)))))) (F_kints : (((List Int) × ((List Int) × Unit)) → (Option (Unit × (Bool × Unit))))) (F_lnew : ((P27 × Unit) → (Option (Unit × ((Option P158) × (Int × Unit)))))) (F_fnew : ((Int × Unit) → (Option (Unit × (P104 × (Int × Unit)))))) (F_fsee : ((P158 × (P104 × (Int × Unit))) → (Option (Unit × (P104 × ((List Int) × (Int × Unit))))))) : Option (Unit × (Bool × Unit)) :=
  opt ((F_lnew (((0 : Int), ((0 : Int), ((List.set (List.set (List.set (List.set (List.replicate 4 (0 : Int)) 0 (9 : Int)) 1 (9 : Int)) 2 (9 : Int)) 3 (9 : Int)), (([] : (List Int)), ())))), ()))) fun r1 =>
  alt (r1.2.1) (
      opt ((F_fnew ((2 : Int), ()))) fun r3 =>
      bif (r1.2.2.1 != (0 : Int)) then
        some ((), (false, ()))
      else
        bif (r3.2.2.1 != (0 : Int)) then
          some ((), (false, ()))
        else
          some ((), (false, ()))) fun r2 =>
  opt ((F_fnew ((2 : Int), ()))) fun r4 =>
  bif (r1.2.2.1 != (0 : Int)) then
    some ((), (false, ()))
  else
    bif (r4.2.2.1 != (0 : Int)) then
      some ((), (false, ()))
    else
      iter (wakes18_l0 fuel F_ladd F_kints F_lnew F_fnew F_fsee) fuel ((0 : Int), (r2, (r4.2.1, ())))

theorem wakes18_eq (fuel : Nat) (F_ladd : (P158 × P66 × Unit) → Option ((P158 × Unit) × (Int × Int × Unit))) (F_kints : (List Int × List Int × Unit) → Option ((Unit) × (Bool × Unit))) (F_lnew : (P27 × Unit) → Option ((Unit) × ((Option P158) × Int × Unit))) (F_fnew : (Int × Unit) → Option ((Unit) × (P104 × Int × Unit))) (F_fsee : (P158 × P104 × Int × Unit) → Option ((Unit) × (P104 × List Int × Int × Unit))) : execFn (E_wakes18 F_ladd F_kints F_lnew F_fnew F_fsee) fuel Tryz.f53 ps_wakes18 rs_wakes18 ((()) : DP ps_wakes18) (fun z => some (z : (Unit) × (Bool × Unit))) = wakes18 fuel F_ladd F_kints F_lnew F_fnew F_fsee := by kernel_rfl

def E_feedOne (F_ladd : (P158 × P66 × Unit) → Option ((P158 × Unit) × (Int × Int × Unit))) (F_lnew : (P27 × Unit) → Option ((Unit) × ((Option P158) × Int × Unit))) (F_fnew : (Int × Unit) → Option ((Unit) × (P104 × Int × Unit))) (F_fsee : (P158 × P104 × Int × Unit) → Option ((Unit) × (P104 × List Int × Int × Unit))) (F_wakes18 : (Unit) → Option ((Unit) × (Bool × Unit))) : Env :=
  { tab := lookT tabL, call := lookC [(26, { ps := ps_ladd, rs := rs_ladd, F := F_ladd }), (38, { ps := ps_lnew, rs := rs_lnew, F := F_lnew }), (47, { ps := ps_fnew, rs := rs_fnew, F := F_fnew }), (51, { ps := ps_fsee, rs := rs_fsee, F := F_fsee }), (53, { ps := ps_wakes18, rs := rs_wakes18, F := F_wakes18 })], nt := 0, pars := [],
    slots := fun b => match b with
    | 0 => [.tmp 0 (.int .i64), .tmp 1 (.int .i64), .tmp 2 (.sl .ro (.int .i64)), .fix 7 102240 [], .fix 9 9 [], .tmp 11 (.int .i64), .obj 102240 (.prod (.prod (.prod (.int .i64) (.prod (.int .i64) (.prod (.arr 4 .i64) (.prod (.sl .ro (.int .i64)) .unit)))) (.prod (.int .i64) (.prod (.int .i64) (.prod (.sl .ro (.prod (.int .i64) (.prod (.prod .bool (.prod (.arr 4 .u64) (.prod (.arr 4 .u64) .unit))) (.prod .str (.prod (.int .i64) (.prod .bool (.prod (.sl .ro (.arr 32 .u8)) (.prod (.sl .ro (.prod .bool (.prod (.arr 4 .u64) (.prod (.arr 4 .u64) .unit)))) (.prod .bool (.prod .bool (.prod (.prod .bool (.prod (.arr 4 .u64) (.prod (.arr 4 .u64) .unit))) .unit))))))))))) (.prod (.sl .ro (.int .i64)) (.prod (.int .i64) (.prod (.prod .bool (.prod (.arr 4 .u64) (.prod (.arr 4 .u64) .unit))) .unit))))))) (.prod (.sl .ownx (.prod (.prod (.int .i64) (.prod (.int .i64) (.prod (.int .i64) (.prod (.sl .ro (.prod (.int .i64) (.prod (.sl .ro (.int .u8)) .unit))) .unit)))) (.prod (.arr 32 .u8) (.prod (.prod (.prod (.int .i64) (.prod (.int .i64) (.prod (.arr 4 .i64) (.prod (.sl .ro (.int .i64)) .unit)))) (.prod (.int .i64) (.prod (.int .i64) (.prod (.sl .ro (.prod (.int .i64) (.prod (.prod .bool (.prod (.arr 4 .u64) (.prod (.arr 4 .u64) .unit))) (.prod .str (.prod (.int .i64) (.prod .bool (.prod (.sl .ro (.arr 32 .u8)) (.prod (.sl .ro (.prod .bool (.prod (.arr 4 .u64) (.prod (.arr 4 .u64) .unit)))) (.prod .bool (.prod .bool (.prod (.prod .bool (.prod (.arr 4 .u64) (.prod (.arr 4 .u64) .unit))) .unit))))))))))) (.prod (.sl .ro (.int .i64)) (.prod (.int .i64) (.prod (.prod .bool (.prod (.arr 4 .u64) (.prod (.arr 4 .u64) .unit))) .unit))))))) (.prod (.sl .ro (.int .i64)) .unit))))) (.prod (.int .i64) .unit))), .obj 9 (.prod (.int .i64) (.prod (.int .i64) (.prod (.int .i64) (.prod .bool .unit))))]
    | 2 => [.tmp 0 (.int .i64), .tmp 1 (.int .i64), .tmp 2 (.sl .ro (.int .i64)), .fix 7 102240 [], .fix 9 9 [], .tmp 14 (.int .i64), .tmp 15 (.int .i64), .obj 102240 (.prod (.prod (.prod (.int .i64) (.prod (.int .i64) (.prod (.arr 4 .i64) (.prod (.sl .ro (.int .i64)) .unit)))) (.prod (.int .i64) (.prod (.int .i64) (.prod (.sl .ro (.prod (.int .i64) (.prod (.prod .bool (.prod (.arr 4 .u64) (.prod (.arr 4 .u64) .unit))) (.prod .str (.prod (.int .i64) (.prod .bool (.prod (.sl .ro (.arr 32 .u8)) (.prod (.sl .ro (.prod .bool (.prod (.arr 4 .u64) (.prod (.arr 4 .u64) .unit)))) (.prod .bool (.prod .bool (.prod (.prod .bool (.prod (.arr 4 .u64) (.prod (.arr 4 .u64) .unit))) .unit))))))))))) (.prod (.sl .ro (.int .i64)) (.prod (.int .i64) (.prod (.prod .bool (.prod (.arr 4 .u64) (.prod (.arr 4 .u64) .unit))) .unit))))))) (.prod (.sl .ownx (.prod (.prod (.int .i64) (.prod (.int .i64) (.prod (.int .i64) (.prod (.sl .ro (.prod (.int .i64) (.prod (.sl .ro (.int .u8)) .unit))) .unit)))) (.prod (.arr 32 .u8) (.prod (.prod (.prod (.int .i64) (.prod (.int .i64) (.prod (.arr 4 .i64) (.prod (.sl .ro (.int .i64)) .unit)))) (.prod (.int .i64) (.prod (.int .i64) (.prod (.sl .ro (.prod (.int .i64) (.prod (.prod .bool (.prod (.arr 4 .u64) (.prod (.arr 4 .u64) .unit))) (.prod .str (.prod (.int .i64) (.prod .bool (.prod (.sl .ro (.arr 32 .u8)) (.prod (.sl .ro (.prod .bool (.prod (.arr 4 .u64) (.prod (.arr 4 .u64) .unit)))) (.prod .bool (.prod .bool (.prod (.prod .bool (.prod (.arr 4 .u64) (.prod (.arr 4 .u64) .unit))) .unit))))))))))) (.prod (.sl .ro (.int .i64)) (.prod (.int .i64) (.prod (.prod .bool (.prod (.arr 4 .u64) (.prod (.arr 4 .u64) .unit))) .unit))))))) (.prod (.sl .ro (.int .i64)) .unit))))) (.prod (.int .i64) .unit))), .obj 9 (.prod (.int .i64) (.prod (.int .i64) (.prod (.int .i64) (.prod .bool .unit))))]
    | _ => [] }
def feedOne_l1 (fuel : Nat) (F_ladd : ((P158 × (P66 × Unit)) → (Option ((P158 × Unit) × (Int × (Int × Unit)))))) (F_lnew : ((P27 × Unit) → (Option (Unit × ((Option P158) × (Int × Unit)))))) (F_fnew : ((Int × Unit) → (Option (Unit × (P104 × (Int × Unit)))))) (F_fsee : ((P158 × (P104 × (Int × Unit))) → (Option (Unit × (P104 × ((List Int) × (Int × Unit))))))) (F_wakes18 : (Unit → (Option (Unit × (Bool × Unit))))) (ih2 : (Int × (Int × ((List Int) × (Int × (Int × (P158 × (P104 × Unit))))))) → Option (Unit × (Bool × Unit))) (s2 : (Int × (Int × ((List Int) × (Int × (Int × (P158 × (P104 × Unit)))))))) : Option (Unit × (Bool × Unit)) :=
  bif (decide ((s2.2.2.2.2.1 < (((List.length s2.2.2.1) : Nat) : Int)))) then
    opt ((getI s2.2.2.1 s2.2.2.2.2.1)) fun r6 =>
    need ((IntKind.wrap IntKind.u64 s2.1) != (0 : Int)) <|
    bif (decide (((IntKind.wrap IntKind.i64 (s2.2.2.2.2.2.2.1.2.1 - (IntKind.wrap IntKind.i64 (Int.tmod (IntKind.wrap IntKind.u64 r6) (IntKind.wrap IntKind.u64 s2.1))))) > s2.2.1))) then
      ih2 (s2.1, (s2.2.1, (s2.2.2.1, (s2.2.2.2.1, ((IntKind.wrap IntKind.i64 (s2.2.2.2.2.1 + (1 : Int))), s2.2.2.2.2.2)))))
    else
      bif (decide ((s2.2.2.2.2.2.2.1.2.2.1 > (IntKind.wrap IntKind.i64 (Int.tmod (IntKind.wrap IntKind.u64 r6) (IntKind.wrap IntKind.u64 s2.1)))))) then
        ih2 (s2.1, (s2.2.1, (s2.2.2.1, (s2.2.2.2.1, ((IntKind.wrap IntKind.i64 (s2.2.2.2.2.1 + (1 : Int))), s2.2.2.2.2.2)))))
      else
        opt ((F_fsee (s2.2.2.2.2.2.1, (s2.2.2.2.2.2.2.1, ((IntKind.wrap IntKind.i64 (Int.tmod (IntKind.wrap IntKind.u64 r6) (IntKind.wrap IntKind.u64 s2.1))), ()))))) fun r7 =>
        bif (r7.2.2.2.1 != (0 : Int)) then
          some ((), (false, ()))
        else
          bif (r7.2.1.2.2.1 != (maxI (IntKind.wrap IntKind.i64 ((maxI s2.2.2.2.1 (IntKind.wrap IntKind.i64 (Int.tmod (IntKind.wrap IntKind.u64 r6) (IntKind.wrap IntKind.u64 s2.1)))) - s2.2.1)) (Neg.neg (1 : Int)))) then
            some ((), (false, ()))
          else
            ih2 (s2.1, (s2.2.1, (s2.2.2.1, ((maxI s2.2.2.2.1 (IntKind.wrap IntKind.i64 (Int.tmod (IntKind.wrap IntKind.u64 r6) (IntKind.wrap IntKind.u64 s2.1)))), ((IntKind.wrap IntKind.i64 (s2.2.2.2.2.1 + (1 : Int))), (s2.2.2.2.2.2.1, (r7.2.1, ())))))))
  else
    bif (not s2.2.2.2.2.2.2.1.2.2.2.1) then
      opt ((F_wakes18 ())) fun r8 =>
      some ((), r8.2)
    else
      some ((), (false, ()))

def feedOne_l0 (fuel : Nat) (F_ladd : ((P158 × (P66 × Unit)) → (Option ((P158 × Unit) × (Int × (Int × Unit)))))) (F_lnew : ((P27 × Unit) → (Option (Unit × ((Option P158) × (Int × Unit)))))) (F_fnew : ((Int × Unit) → (Option (Unit × (P104 × (Int × Unit)))))) (F_fsee : ((P158 × (P104 × (Int × Unit))) → (Option (Unit × (P104 × ((List Int) × (Int × Unit))))))) (F_wakes18 : (Unit → (Option (Unit × (Bool × Unit))))) (ih1 : (Int × (Int × ((List Int) × (Int × (P158 × (P104 × Unit)))))) → Option (Unit × (Bool × Unit))) (s1 : (Int × (Int × ((List Int) × (Int × (P158 × (P104 × Unit))))))) : Option (Unit × (Bool × Unit)) :=
  bif (decide ((s1.2.2.2.1 < s1.1))) then
    opt ((F_ladd (s1.2.2.2.2.1, (((IntKind.wrap IntKind.i64 (s1.2.2.2.1 - (1 : Int))), ((IntKind.wrap IntKind.i64 (s1.2.2.2.1 + (1 : Int))), ((0 : Int), (([] : (List P74)), ())))), ())))) fun r5 =>
    bif (r5.2.2.1 != (0 : Int)) then
      some ((), (false, ()))
    else
      ih1 (s1.1, (s1.2.1, (s1.2.2.1, ((IntKind.wrap IntKind.i64 (s1.2.2.2.1 + (1 : Int))), (r5.1.1, s1.2.2.2.2.2)))))
  else
    iter (feedOne_l1 fuel F_ladd F_lnew F_fnew F_fsee F_wakes18) fuel (s1.1, (s1.2.1, (s1.2.2.1, ((Neg.neg (1 : Int)), ((0 : Int), s1.2.2.2.2)))))

def feedOne (fuel : Nat) (F_ladd : ((P158 × (P66 × Unit)) → (Option ((P158 × Unit) × (Int × (Int × Unit)))))) (F_lnew : ((P27 × Unit) → (Option (Unit × ((Option P158) × (Int × Unit)))))) (F_fnew : ((Int × Unit) → (Option (Unit × (P104 × (Int × Unit)))))) (F_fsee : ((P158 × (P104 × (Int × Unit))) → (Option (Unit × (P104 × ((List Int) × (Int × Unit))))))) (F_wakes18 : (Unit → (Option (Unit × (Bool × Unit))))) (a0 : Int) (a1 : Int) (a2 : (List Int)) : Option (Unit × (Bool × Unit)) :=
  bif (decide (((((List.length a2) : Nat) : Int) > (60 : Int)))) then
    some ((), (true, ()))
  else
    opt ((F_lnew (((0 : Int), ((0 : Int), ((List.set (List.set (List.set (List.set (List.replicate 4 (0 : Int)) 0 (99 : Int)) 1 (99 : Int)) 2 (99 : Int)) 3 (99 : Int)), (([] : (List Int)), ())))), ()))) fun r1 =>
    alt (r1.2.1) (
        opt ((F_fnew ((IntKind.wrap IntKind.i64 (Int.tmod (IntKind.wrap IntKind.u64 a1) (6 : Int))), ()))) fun r3 =>
        bif (r1.2.2.1 != (0 : Int)) then
          some ((), (false, ()))
        else
          bif (r3.2.2.1 != (0 : Int)) then
            some ((), (false, ()))
          else
            some ((), (false, ()))) fun r2 =>
    opt ((F_fnew ((IntKind.wrap IntKind.i64 (Int.tmod (IntKind.wrap IntKind.u64 a1) (6 : Int))), ()))) fun r4 =>
    bif (r1.2.2.1 != (0 : Int)) then
      some ((), (false, ()))
    else
      bif (r4.2.2.1 != (0 : Int)) then
        some ((), (false, ()))
      else
        iter (feedOne_l0 fuel F_ladd F_lnew F_fnew F_fsee F_wakes18) fuel ((IntKind.wrap IntKind.i64 ((1 : Int) + (IntKind.wrap IntKind.i64 (Int.tmod (IntKind.wrap IntKind.u64 a0) (20 : Int))))), ((IntKind.wrap IntKind.i64 (Int.tmod (IntKind.wrap IntKind.u64 a1) (6 : Int))), (a2, ((0 : Int), (r2, (r4.2.1, ()))))))

theorem feedOne_eq (fuel : Nat) (F_ladd : (P158 × P66 × Unit) → Option ((P158 × Unit) × (Int × Int × Unit))) (F_lnew : (P27 × Unit) → Option ((Unit) × ((Option P158) × Int × Unit))) (F_fnew : (Int × Unit) → Option ((Unit) × (P104 × Int × Unit))) (F_fsee : (P158 × P104 × Int × Unit) → Option ((Unit) × (P104 × List Int × Int × Unit))) (F_wakes18 : (Unit) → Option ((Unit) × (Bool × Unit))) (a0 : Int) (a1 : Int) (a2 : List Int) : execFn (E_feedOne F_ladd F_lnew F_fnew F_fsee F_wakes18) fuel Tryz.f13 ps_feedOne rs_feedOne ((a0, a1, a2, ()) : DP ps_feedOne) (fun z => some (z : (Unit) × (Bool × Unit))) = feedOne fuel F_ladd F_lnew F_fnew F_fsee F_wakes18 a0 a1 a2 := by kernel_rfl

def E_kfeed : Env :=
  { tab := lookT tabL, call := lookC [], nt := 0, pars := [],
    slots := fun _ => [] }
def kfeed (fuel : Nat) (a0 : P104) (a1 : P104) : Option (Unit × (Bool × Unit)) :=
  bif (a0.1 == a1.1) then
    bif (a0.2.1 == a1.2.1) then
      bif (a0.2.2.1 == a1.2.2.1) then
        some ((), ((a0.2.2.2.1 == a1.2.2.2.1), ()))
      else
        some ((), (false, ()))
    else
      some ((), (false, ()))
  else
    some ((), (false, ()))

theorem kfeed_eq (fuel : Nat) (a0 : Int × Int × Int × Bool × Unit) (a1 : Int × Int × Int × Bool × Unit) : execFn (E_kfeed) fuel Tryz.f48 ps_kfeed rs_kfeed ((a0, a1, ()) : DP ps_kfeed) (fun z => some (z : (Unit) × (Bool × Unit))) = kfeed fuel a0 a1 := by kernel_rfl

def E_feedLeaps (F_ladd : (P158 × P66 × Unit) → Option ((P158 × Unit) × (Int × Int × Unit))) (F_kints : (List Int × List Int × Unit) → Option ((Unit) × (Bool × Unit))) (F_lnew : (P27 × Unit) → Option ((Unit) × ((Option P158) × Int × Unit))) (F_fnew : (Int × Unit) → Option ((Unit) × (P104 × Int × Unit))) (F_kfeed : (P104 × P104 × Unit) → Option ((Unit) × (Bool × Unit))) (F_fsee : (P158 × P104 × Int × Unit) → Option ((Unit) × (P104 × List Int × Int × Unit))) (F_wakes18 : (Unit) → Option ((Unit) × (Bool × Unit))) : Env :=
  { tab := lookT tabL, call := lookC [(26, { ps := ps_ladd, rs := rs_ladd, F := F_ladd }), (32, { ps := ps_kints, rs := rs_kints, F := F_kints }), (38, { ps := ps_lnew, rs := rs_lnew, F := F_lnew }), (47, { ps := ps_fnew, rs := rs_fnew, F := F_fnew }), (48, { ps := ps_kfeed, rs := rs_kfeed, F := F_kfeed }), (51, { ps := ps_fsee, rs := rs_fsee, F := F_fsee }), (53, { ps := ps_wakes18, rs := rs_wakes18, F := F_wakes18 })], nt := 0, pars := [],
    slots := fun b => match b with
    | 0 => [.tmp 0 (.int .i64), .tmp 1 (.int .i64), .tmp 2 (.sl .ro (.int .i64)), .fix 7 102624 [], .fix 9 9 [], .fix 11 11 [], .tmp 13 (.sl .own (.int .i64)), .tmp 14 (.sl .own (.int .i64)), .tmp 15 (.int .i64), .obj 102624 (.prod (.prod (.prod (.int .i64) (.prod (.int .i64) (.prod (.arr 4 .i64) (.prod (.sl .ro (.int .i64)) .unit)))) (.prod (.int .i64) (.prod (.int .i64) (.prod (.sl .ro (.prod (.int .i64) (.prod (.prod .bool (.prod (.arr 4 .u64) (.prod (.arr 4 .u64) .unit))) (.prod .str (.prod (.int .i64) (.prod .bool (.prod (.sl .ro (.arr 32 .u8)) (.prod (.sl .ro (.prod .bool (.prod (.arr 4 .u64) (.prod (.arr 4 .u64) .unit)))) (.prod .bool (.prod .bool (.prod (.prod .bool (.prod (.arr 4 .u64) (.prod (.arr 4 .u64) .unit))) .unit))))))))))) (.prod (.sl .ro (.int .i64)) (.prod (.int .i64) (.prod (.prod .bool (.prod (.arr 4 .u64) (.prod (.arr 4 .u64) .unit))) .unit))))))) (.prod (.sl .ownx (.prod (.prod (.int .i64) (.prod (.int .i64) (.prod (.int .i64) (.prod (.sl .ro (.prod (.int .i64) (.prod (.sl .ro (.int .u8)) .unit))) .unit)))) (.prod (.arr 32 .u8) (.prod (.prod (.prod (.int .i64) (.prod (.int .i64) (.prod (.arr 4 .i64) (.prod (.sl .ro (.int .i64)) .unit)))) (.prod (.int .i64) (.prod (.int .i64) (.prod (.sl .ro (.prod (.int .i64) (.prod (.prod .bool (.prod (.arr 4 .u64) (.prod (.arr 4 .u64) .unit))) (.prod .str (.prod (.int .i64) (.prod .bool (.prod (.sl .ro (.arr 32 .u8)) (.prod (.sl .ro (.prod .bool (.prod (.arr 4 .u64) (.prod (.arr 4 .u64) .unit)))) (.prod .bool (.prod .bool (.prod (.prod .bool (.prod (.arr 4 .u64) (.prod (.arr 4 .u64) .unit))) .unit))))))))))) (.prod (.sl .ro (.int .i64)) (.prod (.int .i64) (.prod (.prod .bool (.prod (.arr 4 .u64) (.prod (.arr 4 .u64) .unit))) .unit))))))) (.prod (.sl .ro (.int .i64)) .unit))))) (.prod (.int .i64) .unit))), .obj 9 (.prod (.int .i64) (.prod (.int .i64) (.prod (.int .i64) (.prod .bool .unit)))), .obj 11 (.prod (.int .i64) (.prod (.int .i64) (.prod (.int .i64) (.prod .bool .unit))))]
    | 2 => [.tmp 0 (.int .i64), .tmp 1 (.int .i64), .tmp 2 (.sl .ro (.int .i64)), .fix 7 102624 [], .fix 9 9 [], .fix 11 11 [], .tmp 13 (.sl .own (.int .i64)), .tmp 14 (.sl .own (.int .i64)), .tmp 21 (.int .i64), .tmp 22 (.int .i64), .obj 102624 (.prod (.prod (.prod (.int .i64) (.prod (.int .i64) (.prod (.arr 4 .i64) (.prod (.sl .ro (.int .i64)) .unit)))) (.prod (.int .i64) (.prod (.int .i64) (.prod (.sl .ro (.prod (.int .i64) (.prod (.prod .bool (.prod (.arr 4 .u64) (.prod (.arr 4 .u64) .unit))) (.prod .str (.prod (.int .i64) (.prod .bool (.prod (.sl .ro (.arr 32 .u8)) (.prod (.sl .ro (.prod .bool (.prod (.arr 4 .u64) (.prod (.arr 4 .u64) .unit)))) (.prod .bool (.prod .bool (.prod (.prod .bool (.prod (.arr 4 .u64) (.prod (.arr 4 .u64) .unit))) .unit))))))))))) (.prod (.sl .ro (.int .i64)) (.prod (.int .i64) (.prod (.prod .bool (.prod (.arr 4 .u64) (.prod (.arr 4 .u64) .unit))) .unit))))))) (.prod (.sl .ownx (.prod (.prod (.int .i64) (.prod (.int .i64) (.prod (.int .i64) (.prod (.sl .ro (.prod (.int .i64) (.prod (.sl .ro (.int .u8)) .unit))) .unit)))) (.prod (.arr 32 .u8) (.prod (.prod (.prod (.int .i64) (.prod (.int .i64) (.prod (.arr 4 .i64) (.prod (.sl .ro (.int .i64)) .unit)))) (.prod (.int .i64) (.prod (.int .i64) (.prod (.sl .ro (.prod (.int .i64) (.prod (.prod .bool (.prod (.arr 4 .u64) (.prod (.arr 4 .u64) .unit))) (.prod .str (.prod (.int .i64) (.prod .bool (.prod (.sl .ro (.arr 32 .u8)) (.prod (.sl .ro (.prod .bool (.prod (.arr 4 .u64) (.prod (.arr 4 .u64) .unit)))) (.prod .bool (.prod .bool (.prod (.prod .bool (.prod (.arr 4 .u64) (.prod (.arr 4 .u64) .unit))) .unit))))))))))) (.prod (.sl .ro (.int .i64)) (.prod (.int .i64) (.prod (.prod .bool (.prod (.arr 4 .u64) (.prod (.arr 4 .u64) .unit))) .unit))))))) (.prod (.sl .ro (.int .i64)) .unit))))) (.prod (.int .i64) .unit))), .obj 9 (.prod (.int .i64) (.prod (.int .i64) (.prod (.int .i64) (.prod .bool .unit)))), .obj 11 (.prod (.int .i64) (.prod (.int .i64) (.prod (.int .i64) (.prod .bool .unit))))]
    | _ => [] }
def feedLeaps_l1 (fuel : Nat) (F_ladd : ((P158 × (P66 × Unit)) → (Option ((P158 × Unit) × (Int × (Int × Unit)))))) (F_kints : (((List Int) × ((List Int) × Unit)) → (Option (Unit × (Bool × Unit))))) (F_lnew : ((P27 × Unit) → (Option (Unit × ((Option P158) × (Int × Unit)))))) (F_fnew : ((Int × Unit) → (Option (Unit × (P104 × (Int × Unit)))))) (F_kfeed : ((P104 × (P104 × Unit)) → (Option (Unit × (Bool × Unit))))) (F_fsee : ((P158 × (P104 × (Int × Unit))) → (Option (Unit × (P104 × ((List Int) × (Int × Unit))))))) (F_wakes18 : (Unit → (Option (Unit × (Bool × Unit))))) (ih2 : (Int × (Int × ((List Int) × ((List Int) × ((List Int) × (Int × (Int × (P158 × (P104 × (P104 × Unit)))))))))) → Option (Unit × (Bool × Unit))) (s2 : (Int × (Int × ((List Int) × ((List Int) × ((List Int) × (Int × (Int × (P158 × (P104 × (P104 × Unit))))))))))) : Option (Unit × (Bool × Unit)) :=
  bif (decide ((s2.2.2.2.2.2.2.1 ≤ (((List.length s2.2.2.1) : Nat) : Int)))) then
    bif (decide ((s2.2.2.2.2.2.1 < (IntKind.wrap IntKind.i64 (s2.1 - (1 : Int)))))) then
      bif (decide ((s2.2.2.2.2.2.2.1 < (((List.length s2.2.2.1) : Nat) : Int)))) then
        opt ((getI s2.2.2.1 s2.2.2.2.2.2.2.1)) fun r9 =>
        opt ((F_fsee (s2.2.2.2.2.2.2.2.1, (s2.2.2.2.2.2.2.2.2.2.1, ((minI (IntKind.wrap IntKind.i64 ((IntKind.wrap IntKind.i64 (s2.2.2.2.2.2.2.2.2.2.1.2.1 + (1 : Int))) + (IntKind.wrap IntKind.i64 (Int.tmod (IntKind.wrap IntKind.u64 r9) (4 : Int))))) (IntKind.wrap IntKind.i64 (s2.1 - (1 : Int)))), ()))))) fun r10 =>
        bif (r10.2.2.2.1 != (0 : Int)) then
          some ((), (false, ()))
        else
          need (decide ((((List.length s2.2.2.2.2.1) + (List.length r10.2.2.1)) ≤ 68719476736))) <|
          ih2 (s2.1, (s2.2.1, (s2.2.2.1, (s2.2.2.2.1, ((s2.2.2.2.2.1 ++ r10.2.2.1), ((minI (IntKind.wrap IntKind.i64 ((IntKind.wrap IntKind.i64 (s2.2.2.2.2.2.2.2.2.2.1.2.1 + (1 : Int))) + (IntKind.wrap IntKind.i64 (Int.tmod (IntKind.wrap IntKind.u64 r9) (4 : Int))))) (IntKind.wrap IntKind.i64 (s2.1 - (1 : Int)))), ((IntKind.wrap IntKind.i64 (s2.2.2.2.2.2.2.1 + (1 : Int))), (s2.2.2.2.2.2.2.2.1, (s2.2.2.2.2.2.2.2.2.1, (r10.2.1, ()))))))))))
      else
        opt ((F_fsee (s2.2.2.2.2.2.2.2.1, (s2.2.2.2.2.2.2.2.2.2.1, ((IntKind.wrap IntKind.i64 (s2.1 - (1 : Int))), ()))))) fun r11 =>
        bif (r11.2.2.2.1 != (0 : Int)) then
          some ((), (false, ()))
        else
          need (decide ((((List.length s2.2.2.2.2.1) + (List.length r11.2.2.1)) ≤ 68719476736))) <|
          ih2 (s2.1, (s2.2.1, (s2.2.2.1, (s2.2.2.2.1, ((s2.2.2.2.2.1 ++ r11.2.2.1), ((IntKind.wrap IntKind.i64 (s2.1 - (1 : Int))), ((IntKind.wrap IntKind.i64 (s2.2.2.2.2.2.2.1 + (1 : Int))), (s2.2.2.2.2.2.2.2.1, (s2.2.2.2.2.2.2.2.2.1, (r11.2.1, ()))))))))))
    else
      opt ((F_kints (s2.2.2.2.1, (s2.2.2.2.2.1, ())))) fun r12 =>
      bif r12.2.1 then
        bif ((((List.length s2.2.2.2.2.1) : Nat) : Int) == (maxI (IntKind.wrap IntKind.i64 (s2.1 - s2.2.1)) (0 : Int))) then
          opt ((F_kfeed s2.2.2.2.2.2.2.2.2)) fun r13 =>
          bif r13.2.1 then
            opt ((F_wakes18 ())) fun r14 =>
            some ((), r14.2)
          else
            some ((), (false, ()))
        else
          some ((), (false, ()))
      else
        some ((), (false, ()))
  else
    opt ((F_kints (s2.2.2.2.1, (s2.2.2.2.2.1, ())))) fun r15 =>
    bif r15.2.1 then
      bif ((((List.length s2.2.2.2.2.1) : Nat) : Int) == (maxI (IntKind.wrap IntKind.i64 (s2.1 - s2.2.1)) (0 : Int))) then
        opt ((F_kfeed s2.2.2.2.2.2.2.2.2)) fun r16 =>
        bif r16.2.1 then
          opt ((F_wakes18 ())) fun r17 =>
          some ((), r17.2)
        else
          some ((), (false, ()))
      else
        some ((), (false, ()))
    else
      some ((), (false, ()))

def feedLeaps_l0 (fuel : Nat) (F_ladd : ((P158 × (P66 × Unit)) → (Option ((P158 × Unit) × (Int × (Int × Unit)))))) (F_kints : (((List Int) × ((List Int) × Unit)) → (Option (Unit × (Bool × Unit))))) (F_lnew : ((P27 × Unit) → (Option (Unit × ((Option P158) × (Int × Unit)))))) (F_fnew : ((Int × Unit) → (Option (Unit × (P104 × (Int × Unit)))))) (F_kfeed : ((P104 × (P104 × Unit)) → (Option (Unit × (Bool × Unit))))) (F_fsee : ((P158 × (P104 × (Int × Unit))) → (Option (Unit × (P104 × ((List Int) × (Int × Unit))))))) (F_wakes18 : (Unit → (Option (Unit × (Bool × Unit))))) (ih1 : (Int × (Int × ((List Int) × ((List Int) × ((List Int) × (Int × (P158 × (P104 × (P104 × Unit))))))))) → Option (Unit × (Bool × Unit))) (s1 : (Int × (Int × ((List Int) × ((List Int) × ((List Int) × (Int × (P158 × (P104 × (P104 × Unit)))))))))) : Option (Unit × (Bool × Unit)) :=
  bif (decide ((s1.2.2.2.2.2.1 < s1.1))) then
    opt ((F_ladd (s1.2.2.2.2.2.2.1, (((IntKind.wrap IntKind.i64 (s1.2.2.2.2.2.1 - (1 : Int))), ((IntKind.wrap IntKind.i64 (s1.2.2.2.2.2.1 + (1 : Int))), ((0 : Int), (([] : (List P74)), ())))), ())))) fun r7 =>
    bif (r7.2.2.1 != (0 : Int)) then
      some ((), (false, ()))
    else
      opt ((F_fsee (r7.1.1, (s1.2.2.2.2.2.2.2.1, (s1.2.2.2.2.2.1, ()))))) fun r8 =>
      bif (r8.2.2.2.1 != (0 : Int)) then
        some ((), (false, ()))
      else
        bif (decide (((((List.length r8.2.2.1) : Nat) : Int) > (1 : Int)))) then
          some ((), (false, ()))
        else
          need (decide ((((List.length s1.2.2.2.1) + (List.length r8.2.2.1)) ≤ 68719476736))) <|
          ih1 (s1.1, (s1.2.1, (s1.2.2.1, ((s1.2.2.2.1 ++ r8.2.2.1), (s1.2.2.2.2.1, ((IntKind.wrap IntKind.i64 (s1.2.2.2.2.2.1 + (1 : Int))), (r7.1.1, (r8.2.1, s1.2.2.2.2.2.2.2.2))))))))
  else
    iter (feedLeaps_l1 fuel F_ladd F_kints F_lnew F_fnew F_kfeed F_fsee F_wakes18) fuel (s1.1, (s1.2.1, (s1.2.2.1, (s1.2.2.2.1, (s1.2.2.2.2.1, ((Neg.neg (1 : Int)), ((0 : Int), s1.2.2.2.2.2.2)))))))

def feedLeaps (fuel : Nat) (F_ladd : ((P158 × (P66 × Unit)) → (Option ((P158 × Unit) × (Int × (Int × Unit)))))) (F_kints : (((List Int) × ((List Int) × Unit)) → (Option (Unit × (Bool × Unit))))) (F_lnew : ((P27 × Unit) → (Option (Unit × ((Option P158) × (Int × Unit)))))) (F_fnew : ((Int × Unit) → (Option (Unit × (P104 × (Int × Unit)))))) (F_kfeed : ((P104 × (P104 × Unit)) → (Option (Unit × (Bool × Unit))))) (F_fsee : ((P158 × (P104 × (Int × Unit))) → (Option (Unit × (P104 × ((List Int) × (Int × Unit))))))) (F_wakes18 : (Unit → (Option (Unit × (Bool × Unit))))) (a0 : Int) (a1 : Int) (a2 : (List Int)) : Option (Unit × (Bool × Unit)) :=
  bif (decide (((((List.length a2) : Nat) : Int) > (60 : Int)))) then
    some ((), (true, ()))
  else
    opt ((F_lnew (((0 : Int), ((0 : Int), ((List.set (List.set (List.set (List.set (List.replicate 4 (0 : Int)) 0 (99 : Int)) 1 (99 : Int)) 2 (99 : Int)) 3 (99 : Int)), (([] : (List Int)), ())))), ()))) fun r1 =>
    alt (r1.2.1) (
        opt ((F_fnew ((IntKind.wrap IntKind.i64 (Int.tmod (IntKind.wrap IntKind.u64 a1) (6 : Int))), ()))) fun r3 =>
        opt ((F_fnew ((IntKind.wrap IntKind.i64 (Int.tmod (IntKind.wrap IntKind.u64 a1) (6 : Int))), ()))) fun r4 =>
        bif (r1.2.2.1 != (0 : Int)) then
          some ((), (false, ()))
        else
          bif (r3.2.2.1 != (0 : Int)) then
            some ((), (false, ()))
          else
            bif (r4.2.2.1 != (0 : Int)) then
              some ((), (false, ()))
            else
              some ((), (false, ()))) fun r2 =>
    opt ((F_fnew ((IntKind.wrap IntKind.i64 (Int.tmod (IntKind.wrap IntKind.u64 a1) (6 : Int))), ()))) fun r5 =>
    opt ((F_fnew ((IntKind.wrap IntKind.i64 (Int.tmod (IntKind.wrap IntKind.u64 a1) (6 : Int))), ()))) fun r6 =>
    bif (r1.2.2.1 != (0 : Int)) then
      some ((), (false, ()))
    else
      bif (r5.2.2.1 != (0 : Int)) then
        some ((), (false, ()))
      else
        bif (r6.2.2.1 != (0 : Int)) then
          some ((), (false, ()))
        else
          iter (feedLeaps_l0 fuel F_ladd F_kints F_lnew F_fnew F_kfeed F_fsee F_wakes18) fuel ((IntKind.wrap IntKind.i64 ((1 : Int) + (IntKind.wrap IntKind.i64 (Int.tmod (IntKind.wrap IntKind.u64 a0) (20 : Int))))), ((IntKind.wrap IntKind.i64 (Int.tmod (IntKind.wrap IntKind.u64 a1) (6 : Int))), (a2, (([] : (List Int)), (([] : (List Int)), ((0 : Int), (r2, (r5.2.1, (r6.2.1, ())))))))))

theorem feedLeaps_eq (fuel : Nat) (F_ladd : (P158 × P66 × Unit) → Option ((P158 × Unit) × (Int × Int × Unit))) (F_kints : (List Int × List Int × Unit) → Option ((Unit) × (Bool × Unit))) (F_lnew : (P27 × Unit) → Option ((Unit) × ((Option P158) × Int × Unit))) (F_fnew : (Int × Unit) → Option ((Unit) × (P104 × Int × Unit))) (F_kfeed : (P104 × P104 × Unit) → Option ((Unit) × (Bool × Unit))) (F_fsee : (P158 × P104 × Int × Unit) → Option ((Unit) × (P104 × List Int × Int × Unit))) (F_wakes18 : (Unit) → Option ((Unit) × (Bool × Unit))) (a0 : Int) (a1 : Int) (a2 : List Int) : execFn (E_feedLeaps F_ladd F_kints F_lnew F_fnew F_kfeed F_fsee F_wakes18) fuel Tryz.f14 ps_feedLeaps rs_feedLeaps ((a0, a1, a2, ()) : DP ps_feedLeaps) (fun z => some (z : (Unit) × (Bool × Unit))) = feedLeaps fuel F_ladd F_kints F_lnew F_fnew F_kfeed F_fsee F_wakes18 a0 a1 a2 := by kernel_rfl
end Go.Eng
