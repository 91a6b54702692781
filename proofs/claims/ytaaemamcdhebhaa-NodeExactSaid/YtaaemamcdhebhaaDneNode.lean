import Derived.Test.YtaaemamcdhebhaaPNEx0
import Derived.Test.YtaaemamcdhebhaaPNExF14
import Derived.Test.YtaaemamcdhebhaaPNExF46p
import Derived.Test.YtaaemamcdhebhaaPNExF59
import Derived.Test.YtaaemamcdhebhaaPNExF69
import Derived.Test.YtaaemamcdhebhaaPNExF72
import Derived.Test.YtaaemamcdhebhaaNum
import Derived.Test.YtaaemamcdhebhaaBlk2
namespace Go.Proofs.Ytaaemamcdhebhaa.PNE
open Go.RowKit Go.Proofs.YtaaemamcdhebhaaW.PrintWords Go.Proofs.YtaaemamcdhebhaaW.PrintLast Go.Proofs.YtaaemamcdhebhaaW.PrintMore
set_option linter.unusedVariables false
set_option linter.unusedSimpArgs false
def tup10 (l : List Int) (e : Int) : Int × Int × Int × Int × Int × Int × Int × Int × Int × Int := (rd l 0, rd l 1, rd l 2, rd l 3, rd l 4, rd l 5, rd l 6, rd l 7, rd l 8, e)
theorem node_Parse_ok (b : List Int) (hb : Blk.bytesOk b = true) : node_Parse.f b = some (tup10 (Nod.parse b).2 (Nod.parse b).1) := by
  unfold node_Parse.f
  rw [if_pos hb]
  rfl
theorem node_Bytes_ok (lv a b c d e f g h : Int) : node_Bytes.f lv a b c d e f g h = some (if Nod.okNode lv [a, b, c, d, e, f, g, h] = true then Blk.blk Nod.magic Nod.sizes (lv :: [a, b, c, d, e, f, g, h]) else [], Nod.chk lv [a, b, c, d, e, f, g, h]) := rfl
theorem wakes07_ok : woodcutlaw07_wakes.f = some true := by
  unfold woodcutlaw07_wakes.f
  rw [node_Bytes_ok]
  have h : Nod.okNode 1 [0, 5, 0, 0, 0, 0, 0, 0] = true := by decide
  have hc : Nod.chk 1 [0, 5, 0, 0, 0, 0, 0, 0] = 0 := by decide
  have hl : ((Blk.blk Nod.magic Nod.sizes (1 :: [0, 5, 0, 0, 0, 0, 0, 0])).length : Int) = 64 := by rw [Num.blk_len h rfl]; rfl
  have hp : node_Place.f 75 2 = some (1, 11, 0) := by decide
  have hk : node_Check.f 0 0 0 0 0 0 0 0 0 = some 1 := by decide
  rw [if_pos h]
  simp only [node_Parse_ok _ (Num.blk_bytes _), Num.parse_blk h rfl, hp, hk, hc, hl, Option.bind_some, if_true]
  rfl

end Go.Proofs.Ytaaemamcdhebhaa.PNE
