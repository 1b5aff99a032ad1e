/- CanQ: whether a pattern is its own canonical form, by the package spec. -/
import Derived.Test.YtmfoclokpmbpfaaCanP
namespace Go.Proofs.Ytmfoclokpmbpfaa
open Go.ChangeShapes Go.WideShapes Go.ChangeAt Go.RowKit

theorem l21Canonical_c (v : Value) (l : List Int) (w : World) (hv : IntsAt w v l) (ho : okPat l = true) : Calls Try.prog 35 #[v] w (Gives (.bool (same2 eqI (canL l) l)) w) := by
  have HQ := Lib.hid (canonicalPattern_c v l w hv ho)
  have HV := Lib.hid hv
  clear hv ho
  go_enter Try.func35, Try.ntmps35
  go_wp2_with fail
  refine HQ.out.mono ?_
  rintro e w1 ⟨a, n, c, rfl, ho, hb1⟩
  have HO := Lib.hid (OwnInts.at ho); clear ho
  go_wp2_with fail
  refine (sSame_c _ _ _ _ _ HO.out (HV.out.below hb1)).mono ?_
  rintro e w2 ⟨rfl, hb2⟩
  go_wp2
  go_ret
  exact Gives.bool rfl (bthen hb1 hb2)
end Go.Proofs.Ytmfoclokpmbpfaa
