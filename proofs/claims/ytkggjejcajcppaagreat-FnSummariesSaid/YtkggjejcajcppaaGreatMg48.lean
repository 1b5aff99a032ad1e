import Derived.Test.YtkggjejcajcppaaGreatMg31
import Derived.Test.YtkggjejcajcppaaGreatMg47
import Derived.Test.YtkggjejcajcppaaGreatMg9
import Derived.Test.YtkggjejcajcppaaGreatMg8
/- HexR: digits of throws, read and written, by both packages. -/
namespace Go.Proofs.YtkggjejcajcppaaGreat
open Go.ChangeShapes Go.WideShapes Go.ChangeAt Go.RowKit

def hexN (c : Int) : Int := if 48 ≤ c ∧ c ≤ 57 then c - 48 else if 97 ≤ c ∧ c ≤ 102 then c - 87 else -1
theorem hexN_hexV {t : Int} (h0 : 0 ≤ t) (h1 : t ≤ 15) : hexN (hexV t) = t := by unfold hexN hexV; split <;> split <;> (try split) <;> omega
theorem hexN_none {c : Int} (h : ∀ t : Int, 0 ≤ t → t ≤ 15 → hexV t ≠ c) : hexN c = -1 := by
  unfold hexN
  split
  · have := h (c - 48) (by omega) (by omega); unfold hexV at this; rw [if_pos (by omega)] at this; omega
  · split
    · have := h (c - 87) (by omega) (by omega); unfold hexV at this; rw [if_neg (by omega)] at this; omega
    · rfl
theorem hexN_in (c : Int) : -1 ≤ hexN c ∧ hexN c ≤ 15 := by unfold hexN; split <;> (try split) <;> omega
theorem l02Digit_c (c : Int) (w : World) (h0 : 0 ≤ c) (h255 : c ≤ 255) : Calls Tryz.prog 86 #[.int .u8 c] w (Gives (.int .i64 (hexN c)) w) := by
  by_cases h1 : 48 ≤ c ∧ c ≤ 57
  · obtain ⟨h2, h3⟩ := h1
    have HR : Hid (hexN c = c - 48) := Lib.hid (by unfold hexN; rw [if_pos ⟨h2, h3⟩])
    have hw : IntKind.u8.wrap (c - 48) = c - 48 := IntWalk.u8_in _ (by omega)
    have hw2 : IntKind.i64.wrap (c - 48) = c - 48 := IntWalk.i64_in _ (by omega)
    go_enter Tryz.func86, Tryz.ntmps86
    go_wp2
    go_ret
    exact Gives.int HR.out (by go_grown)
  · by_cases h4 : 97 ≤ c ∧ c ≤ 102
    · obtain ⟨h5, h6⟩ := h4
      have HR : Hid (hexN c = c - 97 + 10) := Lib.hid (by unfold hexN; rw [if_neg h1, if_pos ⟨h5, h6⟩]; omega)
      have h7 : ¬ c ≤ 57 := by omega
      have h8 : 48 ≤ c := by omega
      have hw : IntKind.u8.wrap (c - 97) = c - 97 := IntWalk.u8_in _ (by omega)
      have hw2 : IntKind.i64.wrap (c - 97) = c - 97 := IntWalk.i64_in _ (by omega)
      have hw3 : IntKind.i64.wrap (c - 97 + 10) = c - 97 + 10 := IntWalk.i64_in _ (by omega)
      clear h1
      go_enter Tryz.func86, Tryz.ntmps86
      go_wp2
      go_ret
      exact Gives.int HR.out (by go_grown)
    · have HR : Hid (hexN c = -1) := Lib.hid (by unfold hexN; rw [if_neg h1, if_neg h4])
      by_cases h2 : 48 ≤ c
      · have h3 : ¬ c ≤ 57 := fun h => h1 ⟨h2, h⟩
        by_cases h5 : 97 ≤ c
        · have h6 : ¬ c ≤ 102 := fun h => h4 ⟨h5, h⟩
          clear h1 h4
          go_enter Tryz.func86, Tryz.ntmps86
          go_wp2
          go_ret
          exact Gives.int HR.out (by go_grown)
        · clear h1 h4
          go_enter Tryz.func86, Tryz.ntmps86
          go_wp2
          go_ret
          exact Gives.int HR.out (by go_grown)
      · have h5 : ¬ 97 ≤ c := by omega
        clear h1 h4
        go_enter Tryz.func86, Tryz.ntmps86
        go_wp2
        go_ret
        exact Gives.int HR.out (by go_grown)
def digsL (s : ByteArray) : List Int := (chars s).map hexN
theorem digs_len (s : ByteArray) : (digsL s).length = s.size := by unfold digsL; rw [List.length_map, chars_len]
theorem digs_step (s : ByteArray) (k : Nat) (hk : k < s.size) : (digsL s).take (k + 1) = (digsL s).take k ++ [hexN (nth (chars s) k)] := by
  rw [take_nth _ k (by rw [digs_len]; exact hk)]
  congr 2
  unfold digsL
  rw [nth_eq _ k (by rw [List.length_map, chars_len]; exact hk), nth_eq _ k (by rw [chars_len]; exact hk), List.getElem_map]
set_option maxHeartbeats 1000000 in
theorem l02Read_c (s : ByteArray) (w : World) (hs : s.size ≤ 1048576) : Calls Tryz.prog 53 #[.string s] w (GivesInts (digsL s) w) := by
  go_enter Tryz.func53, Tryz.ntmps53
  go_wp2
  go_loopw [3, 4] (fun o i wr => ∃ (k : Nat) (a' : Option Addr) (n' c' : Nat), i = .int .i64 k ∧ k ≤ s.size ∧ o = .slice a' n' c' ∧ Hid (OwnInts wr w.heap.size (.slice a' n' c') ((digsL s).take k)) ∧ Below w.heap.size w wr) (fun _ i _ => s.size - (intOf i).toNat)
  case atStart => exact ⟨0, _, _, _, rfl, Nat.zero_le _, rfl, Lib.hid (own_empty w), by go_grown⟩
  case round =>
    obtain ⟨k, a', n', c', rfl, hk, rfl, HO, hb⟩ := hrel
    by_cases hlt : k < s.size
    · have hcn := (chars_nth s k hlt).symm
      have hbd := chars_bd s k
      have HL := Lib.hid (digs_step s k hlt)
      have hlen : ((digsL s).take k).length ≤ 1048576 := by rw [List.length_take, digs_len]; omega
      generalize nth (chars s) k = x at *
      have HQ := Lib.hid (fun W => l02Digit_c x W hbd.1 hbd.2)
      generalize hexN x = y at *
      go_wp2_with fail
      refine (HQ.out _).mono ?_
      rintro e w1 ⟨rfl, hb1⟩
      have HO1 := Lib.hid (own_below HO.out hb1)
      have hbb := bthen hb hb1
      clear HO hb hb1
      go_wp2_with (at_builtin; refine wpList_app_ints rfl _ _ rfl w.heap.size _ _ rfl (HO1.out.alloc _) _ _ _ [y] rfl rfl (ints_new _ _ _) (by simp only [List.length_cons, List.length_nil]; omega) (by have := hbb.size; simp; omega) ?_)
      intro a6 n6 c6 w6 ho6 hg6 _ _
      have hb6 : Below w.heap.size w w6 := (hbb.alloc hbb.size _).grown hg6 (by have := hbb.size; simp; omega) (fun g hg => (World.ownsRow.lt HO1.out g hg).1)
      have HO6 : Hid (OwnInts w6 w.heap.size (.slice a6 n6 c6) ((digsL s).take (k + 1))) := Lib.hid (by rw [HL.out]; exact ho6)
      clear ho6 hg6 HO1
      go_wp2
      exact ⟨⟨k + 1, a6, n6, c6, by go_num, hlt, rfl, HO6, hb6⟩, by simp [intOf]; omega⟩
    · obtain rfl : k = s.size := by omega
      have HR : Hid (OwnInts wr w.heap.size (.slice a' n' c') (digsL s)) := Lib.hid (by
        have h := HO.out
        rw [List.take_of_length_le (by rw [digs_len]; exact Nat.le_refl _)] at h
        exact h)
      clear HO
      go_wp2
      go_ret
      exact ⟨_, _, _, rfl, HR.out, hb⟩
end Go.Proofs.YtkggjejcajcppaaGreat
