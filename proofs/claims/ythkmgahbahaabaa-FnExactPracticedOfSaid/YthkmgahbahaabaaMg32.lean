import Derived.Test.YthkmgahbahaabaaMg31
import Derived.Test.YthkmgahbahaabaaMg11
/- CanP: canonical patterns of valid patterns, by the reference. -/
namespace Go.Proofs.Ythkmgahbahaabaa
open Go.ChangeShapes Go.WideShapes Go.ChangeAt Go.RowKit

theorem okPat_len {l : List Int} (h : okPat l = true) : 1 ≤ l.length ∧ l.length ≤ 12 := (throwsB_nth (okPat_throws h)).2
theorem canonicalPattern_c (v : Value) (l : List Int) (w : World) (hv : IntsAt w v l) (ho : okPat l = true) : Calls Try.prog 33 #[v] w (fun e w' => ∃ a n c, e = .returned (.tuple #[.slice a n c, .int .i64 0]) ∧ OwnInts w' w.heap.size (.slice a n c) (canL l) ∧ Below w.heap.size w w') := by
  have HV := Lib.hid hv
  have hq := l02Ok_c v l w hv
  rw [ho] at hq
  have hb := okPat_len ho
  have HQ := Lib.hid (fun W a => l03Canon_c v l W a hb.1 hb.2)
  clear hv ho hb
  go_enter Try.func33, Try.ntmps33
  go_wp2_with fail
  refine hq.mono ?_
  rintro e w1 ⟨rfl, hb1⟩
  clear hq
  go_wp2_with fail
  refine (HQ.out w1 (HV.out.below hb1)).mono ?_
  rintro e w2 ⟨a, n, c, rfl, ho, hb2⟩
  have HO := Lib.hid ho; clear ho
  go_wp2
  go_ret2
  exact ⟨_, _, _, rfl, own_mono HO.out hb1.size, bthen hb1 hb2⟩
end Go.Proofs.Ythkmgahbahaabaa
