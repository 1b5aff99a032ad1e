import Derived.Test.YthkmgahbahaabaaMg42
import Derived.Test.YthkmgahbahaabaaMg39
import Derived.Test.YthkmgahbahaabaaMg43
/- HexD: the digits of a list of throws, by the package impl. -/
namespace Go.Proofs.Ythkmgahbahaabaa
open Go.ChangeShapes Go.WideShapes Go.ChangeAt Go.RowKit

theorem hdstr {r b : ByteArray} {w w' : World} (h : r = b) (hb : Below w.heap.size w w') : Gives (.string r) w (.returned (.string b)) w' := ⟨by rw [h], hb⟩
set_option maxHeartbeats 2000000 in
set_option maxHeartbeats 1000000 in
theorem hexDigits_c (v : Value) (l : List Int) (w : World) (hv : IntsAt w v l) (h15 : ∀ x ∈ l, 0 ≤ x ∧ x ≤ 15) (hl : l.length ≤ 1048576) : Calls Try.prog 21 #[v] w (Gives (.string (strOfNums (l.map hexV))) w) := by
  obtain ⟨a, n, cap, rfl, hn, -, hm, hc⟩ := hv
  have Hc := Lib.hid hc; clear hc
  have Hth := Lib.hid h15; clear h15
  have Hn := Lib.hid hn
  have hn20 : n ≤ 1048576 := by omega
  clear hn hl
  go_enter Try.func21, Try.ntmps21
  go_wp2
  go_loopw [3, 9] (fun s i wr => ∃ (k : Nat) (a' : Option Addr) (n' c' : Nat), i = .int .i64 k ∧ k ≤ n ∧ s = .slice a' n' c' ∧ Hid (OwnBytes wr w.heap.size (.slice a' n' c') ((l.take k).map hexV)) ∧ Below w.heap.size w wr) (fun _ i _ => n - (intOf i).toNat)
  case atStart => exact ⟨0, _, _, _, rfl, Nat.zero_le _, rfl, Lib.hid (own_bytes_empty w), by go_grown⟩
  case round =>
    obtain ⟨k, a', n', c', rfl, hk, rfl, HO, hb⟩ := hrel
    by_cases hlt : k < n
    · have hkl : k < l.length := by rw [← Hn.out]; exact hlt
      obtain ⟨b, o, rfl, hbs, c0⟩ := (Hc.out.below hb) k hkl
      obtain ⟨hx0, hx15⟩ := Hth.out _ (mem_nth hkl)
      have HL : Hid ((l.take (k + 1)).map hexV = (l.take k).map hexV ++ [hexV (nth l k)]) := Lib.hid (by rw [take_nth l k hkl, List.map_append]; rfl)
      have hlen : ((l.take k).map hexV).length ≤ 1048576 := by rw [List.length_map, List.length_take]; omega
      clear hkl
      generalize nth l k = x at *
      have hix := hexIdx x hx0 hx15
      have hbx := hexV_bd hx0 hx15
      generalize hexV x = y at *
      generalize hz : (l.take k).map hexV = z at *
      clear hz
      go_wp2_with (at_builtin; refine wpList_app_bytes rfl _ _ rfl w.heap.size _ _ rfl (HO.out.alloc _) _ _ _ [y] rfl rfl (bytes_new _ _ _) (by simp; omega) (by have := hb.size; simp; omega) ?_)
      intro a2 n2 c2 w2 ho2 hg2 _ _
      have hb2 : Below w.heap.size w w2 := (hb.alloc hb.size _).grown hg2 (by have := hb.size; simp; omega) (fun g hg => (World.ownsRow.lt HO.out g hg).1)
      have HO2 : Hid (OwnBytes w2 w.heap.size (.slice a2 n2 c2) ((l.take (k + 1)).map hexV)) := Lib.hid (by rw [HL.out]; exact ho2)
      clear ho2 hg2 HO HL hix
      go_wp2
      exact ⟨⟨k + 1, a2, n2, c2, by go_num, hlt, rfl, HO2, hb2⟩, by simp [intOf]; omega⟩
    · obtain rfl : k = n := by omega
      have hcv := own_bytes_text HO.out 9 Try.underlying9
      rw [Hn.out, List.take_length] at hcv
      go_wp2
      go_ret
      exact hdstr rfl hb
end Go.Proofs.Ythkmgahbahaabaa
