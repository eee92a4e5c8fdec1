/- Layer 13 (arch): the bytes of any header, as the document puts them: a walk. There is no condition but the numbers' bounds. -/
import Derived.Test.YtaapjampmnanmaaGreatArchPH
import Derived.Deep.RegionHeld3
namespace Go.Proofs.YtaapjampmnanmaaGreat
open Go.RowKit
def u11 (h : Hd) : List Nat := [h.r0, h.r1, h.m0, h.m1, h.l0, h.l1, h.d0, h.d1, h.c0, h.c1, h.c2]
def i6 (h : Hd) : List Int := [if h.cl then 1 else 0, h.inn, h.out, h.kind, h.minz, h.maxz]
def cq (h : Hd) (k : Nat) : List UInt8 := mag ++ ((u11 h).take k).flatMap (le 8)
def sq (h : Hd) (k : Nat) : List UInt8 := cnt h 3 ++ ((i6 h).take k).map b8
end Go.Proofs.YtaapjampmnanmaaGreat
