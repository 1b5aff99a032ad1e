import Derived.Test.YtpfjmbgkbildjaaMg14
import Derived.Test.YtpfjmbgkbildjaaMg16
import Derived.Test.YtpfjmbgkbildjaaMg17
/- TurnP: rotations and roots of patterns, by the package spec. -/
namespace Go.Proofs.Ytpfjmbgkbildjaa
open Go.ChangeShapes Go.WideShapes Go.ChangeAt Go.RowKit

theorem rotatePattern_c (v : Value) (l : List Int) (k : Nat) (w : World) (hv : IntsAt w v l) (hok : okPat l = true) (hk : k ≤ 1000) : Calls Try.prog 22 #[v, .int .i64 k] w (GivesIntsC (rotL l k) 0 w) := by
  have hq := l02Ok_c v l w hv
  rw [hok] at hq
  have HQ := Lib.hid hq
  have HV := Lib.hid hv
  have hin := ok_in hok
  have HR := Lib.hid (fun W x => l03Rotate_c v l k W x hin.1 (by omega) hk)
  have HI := Lib.hid (fun W => l00In_c (k : Int) (-1000000) 1000000 W)
  rw [show inB (k : Int) (-1000000) 1000000 = true by unfold inB; simp; omega] at HI
  clear hq hv hin hok
  go_enter Try.func22, Try.ntmps22
  go_wp2_with (first | (go_at_call 41; refine HQ.out.mono ?_; rintro e w1 ⟨rfl, hb1⟩) | (go_at_call 66; refine (HI.out _).mono ?_; rintro e w2 ⟨rfl, hb2⟩) | (go_at_call 57; refine (HR.out _ (HV.out.below (bthen hb1 hb2))).mono ?_; rintro e w3 ⟨a, n, c, rfl, ho, hb3⟩; have HO := Lib.hid ho; have hb := bthen (bthen hb1 hb2) hb3; have hs := (bthen hb1 hb2).size; clear ho hb1 hb2 hb3) | go_in)
  go_ret2
  exact GivesIntsC.mk rfl (own_mono HO.out hs) hb
theorem rootPattern_c (v : Value) (l : List Int) (w : World) (hv : IntsAt w v l) (hok : okPat l = true) : Calls Try.prog 25 #[v] w (GivesIntsC (rootL l) 0 w) := by
  have hq := l02Ok_c v l w hv
  rw [hok] at hq
  have HV := Lib.hid hv
  have hin := ok_in hok
  have HR := Lib.hid (fun W x => l03Root_c v l W x hin.1 hin.2.1)
  clear hv hin hok
  go_enter Try.func25, Try.ntmps25
  go_wp2_with fail
  refine hq.mono ?_
  rintro e w1 ⟨rfl, hb1⟩
  clear hq
  go_wp2_with fail
  refine (HR.out _ (HV.out.below hb1)).mono ?_
  rintro e w3 ⟨a, n, c, rfl, ho, hb3⟩
  have HO := Lib.hid ho
  have hb := bthen hb1 hb3
  have hs := hb1.size
  clear ho hb1 hb3
  go_wp2
  go_ret2
  exact GivesIntsC.mk rfl (own_mono HO.out hs) hb
end Go.Proofs.Ytpfjmbgkbildjaa
