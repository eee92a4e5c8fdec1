/- Layer 13 (arch): the bytes of any header, as the document puts them: a walk. There is no condition but the numbers' bounds. -/
import Derived.Test.YtaapjampmnanmaaArchPH
import Derived.Deep.RegionHeld3
namespace Go.Proofs.Ytaapjampmnanmaa
open Go.RowKit

/-- How far the bytes stand: a slice of the call's own, what was there before kept. -/
structure Fo (w0 w : World) (B : Nat) (A : Option Addr) (c n : Nat) (L : List UInt8) : Prop where
  len : L.length = n
  own : Ow w B 5 A n c (L.map bv)
  bel : Below B w0 w
  kp : Kp w0 w
  hB : B ≤ w0.heap.size
theorem Fo.size {w0 w : World} {B : Nat} {A : Option Addr} {c n : Nat} {L : List UInt8} (h : Fo w0 w B A c n L) : B ≤ w.heap.size := Nat.le_trans h.hB h.bel.size
theorem Fo.app {w0 w w' : World} {B : Nat} {A A' : Option Addr} {c n c' n' m : Nat} {L news : List UInt8} (h : Fo w0 w B A c n L) (hm : news.length = m) (hn' : n + m = n') (ho : Ow w' B 5 A' (n + m) c' (L.map bv ++ news.map bv)) (hc : Chg (fun k => blk A = some k) w w') : Fo w0 w' B A' c' n' (L ++ news) ∧ Kp w0 w' := by
  subst hm hn'
  have ho' : Ow w' B 5 A' (n + news.length) c' ((L ++ news).map bv) := by rw [List.map_append]; exact ho
  have hkp : Kp w0 w' := h.kp.trans (kp_chg h.own hc)
  exact ⟨⟨by rw [List.length_append, h.len], ho', h.bel.trans (hc.to_below h.size (fun i hi => (h.own.blk_lt i hi).1)), hkp, h.hB⟩, hkp⟩
def i6 (h : Hd) : List Int := [if h.cl then 1 else 0, h.inn, h.out, h.kind, h.minz, h.maxz]
def sq (h : Hd) (k : Nat) : List UInt8 := cnt h 3 ++ ((i6 h).take k).map b8
end Go.Proofs.Ytaapjampmnanmaa
