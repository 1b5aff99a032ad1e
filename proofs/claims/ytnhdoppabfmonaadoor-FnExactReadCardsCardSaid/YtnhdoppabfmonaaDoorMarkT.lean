/- MarkT: the text of a mark. -/
import Derived.Test.YtnhdoppabfmonaaDoorMarks
namespace Go.Proofs.YtnhdoppabfmonaaDoor
open Go.ChangeShapes Go.WideShapes Go.ChangeAt Go.RowKit

theorem Gives.str {r b : ByteArray} {w w' : World} (h : r = b) (hb : Below w.heap.size w w') : Gives (.string r) w (.returned (.string b)) w' := ⟨by rw [h], hb⟩
theorem pow_le_of_lt {a b : Nat} (h : a ≤ b) : 10 ^ a ≤ 10 ^ b := Nat.pow_le_pow_right (by omega) h
set_option maxRecDepth 100000 in
set_option maxHeartbeats 1000000 in
theorem markText_c (k : Nat) (w : World) (h1 : 1 ≤ k) (h2 : k ≤ 1125899906842624) : Calls Tryd.prog 48 #[.int .i64 k] w (Gives (.string (markB k)) w) := by
  have hk0 : decide (k = 0) = false := decide_eq_false (by omega)
  go_enter Tryd.func48, Tryd.ntmps48
  go_wp2
  go_loopw [0, 3] (fun n s wr => ∃ (j : Nat) (out : ByteArray), n = .int .i64 j ∧ s = .string out ∧ j ≤ 1125899906842624 ∧ out.size ≤ 20 ∧ Hid (j < 10 ^ (20 - out.size)) ∧ Hid (digF k ByteArray.empty = digF j out) ∧ Below w.heap.size w wr) (fun n _ _ => (intOf n).toNat)
  case atStart => exact ⟨k, _, rfl, rfl, h2, by decide, Lib.hid (Nat.lt_of_le_of_lt h2 (show (1125899906842624 : Nat) < 10 ^ 20 by decide)), Lib.hid rfl, Below.refl _ _⟩
  case round =>
    obtain ⟨j, out, rfl, rfl, hj, hs, HP, HS, hb⟩ := hrel
    by_cases hlt : 0 < j
    · have HT := Lib.hid (HS.out.trans (digF_step j out (by omega)))
      have hs19 : out.size ≤ 19 := by
        rcases Nat.lt_or_ge out.size 20 with h | h
        · omega
        · have := HP.out
          rw [show 20 - out.size = 0 by omega] at this
          omega
      have HP2 : Hid (j / 10 < 10 ^ (20 - (strOfNums [48 + (j : Int) % 10] ++ out).size)) := Lib.hid (by
        rw [ByteArray.size_append, strOfNums_size]
        have := HP.out
        rw [show 20 - out.size = (20 - ([48 + (j : Int) % 10].length + out.size)) + 1 by simp; omega, Nat.pow_succ] at this
        exact Nat.div_lt_of_lt_mul (by rw [Nat.mul_comm]; exact this))
      clear HS HP
      have hr1 : (j : Int).tmod 10 = (j : Int) % 10 := Int.tmod_eq_emod_of_nonneg (by omega)
      have hd1 : (j : Int).tdiv 10 = ((j / 10 : Nat) : Int) := by rw [Int.tdiv_eq_ediv_of_nonneg (by omega)]; rfl
      have hd2 : (j : Int) / 10 = ((j / 10 : Nat) : Int) := rfl
      have hm0 : 0 ≤ (j : Int) % 10 := by omega
      have hm1 : (j : Int) % 10 < 10 := by omega
      have hqj : j / 10 ≤ j := Nat.div_le_self _ _
      have hqlt : j / 10 < j := Nat.div_lt_self (by omega) (by omega)
      generalize hr : (j : Int) % 10 = r at *
      generalize hq : j / 10 = q at *
      clear hr hq
      have hw : IntKind.i64.wrap (q : Int) = (q : Int) := IntWalk.i64_in _ (by omega)
      have hcv := run_convert_bytes_arg (P := Tryd.prog) (wr.alloc (.cells #[.int .u8 (48 + r)] 5)) 95 5 Tryd.underlying95 Tryd.underlying5 wr.heap.size 0 1 1 [48 + r] rfl (fun i hi => by
        obtain rfl : i = 0 := by omega
        rw [World.cell?_alloc_at _ _ _ _ rfl]; rfl) 9 Tryd.underlying9
      have hs3 : (strOfNums [48 + r]).size = 1 := by rw [strOfNums_size]; rfl
      have hs2 : (strOfNums [48 + r] ++ out).size ≤ 20 := by rw [ByteArray.size_append, strOfNums_size]; simp; omega
      go_wp2
      exact ⟨⟨q, _, rfl, rfl, by omega, hs2, HP2, HT, hb.alloc hb.size _⟩, by simp [intOf]; omega⟩
    · obtain rfl : j = 0 := by omega
      have HR : Hid (markB k = ByteArray.mk #[109] ++ out) := Lib.hid (by unfold markB; rw [HS.out, digF_zero])
      clear HS HP
      go_wp2
      go_ret
      exact Gives.str HR.out hb
theorem markB_size (k : Nat) (h : k ≤ 1125899906842624) : (markB k).size ≤ 9223372036854775807 := by
  have := digF_size k ByteArray.empty
  unfold markB
  rw [ByteArray.size_append]
  have h1 : (ByteArray.mk #[109]).size = 1 := rfl
  have h2 : ByteArray.empty.size = 0 := rfl
  omega
end Go.Proofs.YtnhdoppabfmonaaDoor
