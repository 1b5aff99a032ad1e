import Derived.Test.YtkggjejcajcppaaGreatMg44
import Derived.Test.YtkggjejcajcppaaGreatMg45
import Derived.Test.YtkggjejcajcppaaGreatMg48
import Derived.Test.YtkggjejcajcppaaGreatMg40
/- DrawA: attempts that are drawn: their patterns. -/
namespace Go.Proofs.YtkggjejcajcppaaGreat
open Go.ChangeShapes Go.WideShapes Go.ChangeAt Go.RowKit

def patTexts : List ByteArray := [{ data := #[51] }, { data := #[53, 51, 49] }, { data := #[51, 49, 53] }, { data := #[52, 52, 49] }, { data := #[53, 49] }, { data := #[53, 49, 53, 49] }, { data := #[51, 51] }]
set_option maxRecDepth 100000 in
set_option maxHeartbeats 2000000 in
theorem l24Pattern_c (b n : Nat) (w : World) (h : SrcAt w b n) (hn : n ≤ 500000) : Calls Tryz.prog 33 #[.pointer (some ⟨b, 0, none⟩)] w (DrawsL b (n + 500) (fun l => l.length ≤ 13) w) := by
  have HS := Lib.hid h
  have hbl := h.lt
  clear h
  go_enter Tryz.func33, Tryz.ntmps33
  go_wp2_with fail
  refine (one_c b n 8 w HS.out (by omega) (by omega)).mono ?_
  rintro e w1 ⟨d, rfl, hd⟩
  have HD := Lib.hid hd
  have hs1 := hd.2.size
  clear hd HS
  cases d
  · go_wp2_with fail
    have hl4 := strs_lit (w := w1) patTexts 7 rfl _ rfl (by decide)
    have hbA : Below w1.heap.size w1 (w1.alloc (.cells (patTexts.map Value.string).toArray 9)) := by go_grown
    have HDA := Lib.hid (HD.out.then_below hbA)
    refine (text_c b _ _ patTexts _ HDA.out.1 (by omega) hl4 (by decide) (by decide) (fun b' o m c e => by injection e with e1; injection e1 with e1; injection e1 with e1; omega)).mono ?_
    rintro e w2 ⟨r4, hr4, rfl, hd⟩
    have hns : (nth patTexts r4).size ≤ 4 := (by decide : ∀ x ∈ patTexts, x.size ≤ 4) _ (mem_nth hr4)
    have HD2 := Lib.hid (HDA.out.trans hd)
    have hs2 := hd.2.size
    have hs3 := hbA.size
    clear hd HD HDA hl4 hbA hr4
    generalize nth patTexts r4 = nm at *
    go_wp2_with fail
    refine (l02Read_c nm w2 (by omega)).mono ?_
    rintro e w3 ⟨a, m, c, rfl, ho, hb3⟩
    have HL : Hid ((digsL nm).length ≤ 13) := Lib.hid (by rw [digs_len]; omega)
    have HO := Lib.hid (own_mono ho (show w.heap.size ≤ w2.heap.size by omega))
    have HD3 := Lib.hid ((HD2.out.then_below hb3).mono (show _ ≤ n + 500 by omega))
    clear ho hb3 HD2
    go_wp2
    go_ret
    exact ⟨a, m, c, _, rfl, HL.out, HO.out, HD3.out⟩
  · go_wp2_with fail
    refine (l02Draw_c b _ 5 w1 HD.out.1 (by omega) (by omega)).mono ?_
    rintro e w2 ⟨a, m, c, l, rfl, ⟨h1, h12, -, -⟩, ho, hd⟩
    have HL : Hid (l.length ≤ 13) := Lib.hid (by omega)
    have HO := Lib.hid (own_mono ho hs1)
    have HD3 := Lib.hid ((HD.out.trans hd).mono (show _ ≤ n + 500 by omega))
    clear ho hd HD
    go_wp2
    go_ret
    exact ⟨a, m, c, l, rfl, HL.out, HO.out, HD3.out⟩
/-- Attempts, drawn. -/
def DrawsA (K b n : Nat) (w : World) (e : Ending) (w' : World) : Prop := ∃ (a : Option Addr) (m c : Nat) (l : List Att), e = .returned (.slice a m c) ∧ l.length ≤ K ∧ OwnAtts w' w.heap.size (.slice a m c) l ∧ Drew b n w w'
theorem attsMono {w : World} {base base' : Nat} {v : Value} {l : List Att} (h : OwnAtts w base' v l) (hb : base ≤ base') : OwnAtts w base v l := by
  obtain ⟨ps, h1, h2, h3, h4⟩ := h
  exact ⟨ps, h1, own_mono h2 hb, fun p hp => ⟨(h3 p hp).1, own_mono (h3 p hp).2.1 hb, (h3 p hp).2.2.1, (h3 p hp).2.2.2⟩, h4⟩
set_option maxRecDepth 100000 in
set_option maxHeartbeats 4000000 in
theorem l24Draw_c (b n : Nat) (w : World) (h : SrcAt w b n) (hn : n ≤ 100000) : Calls Tryz.prog 49 #[.pointer (some ⟨b, 0, none⟩)] w (DrawsA 9 b (n + 6000) w) := by
  have HS := Lib.hid h
  have hbl := h.lt
  clear h
  go_enter Tryz.func49, Tryz.ntmps49
  go_wp2_with fail
  have HO0 := Lib.hid (own_attsD w)
  have HD0 := Lib.hid (Drew.of_below HS.out (show Below w.heap.size w (w.alloc (.cells #[] 38)) by go_grown))
  refine (pick_c b _ 10 _ HD0.out.1 (by omega) (by omega)).mono ?_
  rintro e w1 ⟨r, rfl, hr, hd⟩
  have hr1 : r ≤ 9 := by omega
  have HO1 := Lib.hid (nest_drew HO0.out hd hbl)
  have HD1 := Lib.hid (HD0.out.trans hd)
  clear hd hr HO0 HD0
  go_wp2
  go_loopw [3, 4] (fun o i wr => ∃ (k : Nat) (a' : Option Addr) (n' c' : Nat) (l' : List Att), i = .int .i64 k ∧ o = .slice a' n' c' ∧ l'.length + k ≤ 9 ∧ Hid (OwnAtts wr w.heap.size (.slice a' n' c') l') ∧ Hid (Drew b (n + 2 + 600 * (9 - k)) w wr)) (fun _ i _ => (intOf i).toNat)
  case atStart => exact ⟨r, _, _, _, [], rfl, rfl, by simp; omega, HO1, Lib.hid (HD1.out.mono (by omega))⟩
  case round =>
    clear HO1 HD1
    obtain ⟨k, a', n', c', l', rfl, rfl, hk, HO, HD⟩ := hrel
    by_cases hlt : 0 < k
    · obtain ⟨k', rfl⟩ : ∃ k', k = k' + 1 := ⟨k - 1, by omega⟩
      go_wp2_with fail
      refine (l24Pattern_c b _ wr HD.out.1 (by omega)).mono ?_
      rintro e w3 ⟨pa, pn, pc, x, rfl, -, ho, hd⟩
      have hsw := HD.out.2.size
      have hbw : b < wr.heap.size := by omega
      have HP := Lib.hid ho
      have HD3 := Lib.hid hd
      clear ho hd
      go_wp2_with fail
      refine (pick_c b _ 20 _ HD3.out.1 (by omega) (by omega)).mono ?_
      rintro e w4 ⟨t, rfl, ht, hd⟩
      have ht9 : t ≤ 19 := by omega
      replace HP := Lib.hid (own_drew HP.out hd hbw)
      replace HD3 := Lib.hid (HD3.out.trans hd)
      clear hd ht
      go_wp2_with fail
      refine (pick_c b _ 4 _ HD3.out.1 (by omega) (by omega)).mono ?_
      rintro e w5 ⟨u, rfl, hu, hd⟩
      have hu3 : u ≤ 3 := by omega
      replace HP := Lib.hid (own_drew HP.out hd hbw)
      replace HD3 := Lib.hid (HD3.out.trans hd)
      clear hd hu
      have hm0 : 0 ≤ (t : Int) * (1 + (u : Int)) := Int.mul_nonneg (by omega) (by omega)
      have hm1 : (t : Int) * (1 + (u : Int)) ≤ 19 * 4 := Int.mul_le_mul (by omega) (by omega) (by omega) (by omega)
      have hwm : IntKind.i64.wrap ((t : Int) * (1 + (u : Int))) = (t : Int) * (1 + (u : Int)) := IntWalk.i64_in _ (by omega)
      go_wp2_with fail
      refine (one_c b _ 2 _ HD3.out.1 (by omega) (by omega)).mono ?_
      rintro e w6 ⟨dr, rfl, hd⟩
      replace HP := Lib.hid (own_drew HP.out hd hbw)
      replace HD3 := Lib.hid (HD3.out.trans hd)
      clear hd
      generalize (t : Int) * (1 + (u : Int)) = ct at *
      clear hwm hm0 hm1
      go_wp2_with (at_builtin; refine wpList_snoc_atts rfl _ _ rfl w.heap.size b _ _ l' _ _ _ x ct dr rfl HO.out HD3.out hbl hsw HP.out _ rfl rfl (by omega) ?_)
      intro a7 n7 c7 w7 ho7 hb7 hn7; clear hn7
      have HD7 := Lib.hid ((HD.out.trans HD3.out).thenK hb7 hbl)
      have HO7 := Lib.hid ho7
      clear ho7 hb7 HO HD HP HD3
      go_wp2
      exact ⟨⟨k', a7, n7, c7, _, by go_num, rfl, by simp; omega, HO7, Lib.hid (HD7.out.mono (by omega))⟩, by simp [intOf]⟩
    · obtain rfl : k = 0 := by omega
      have HL : Hid (l'.length ≤ 9) := Lib.hid (by omega)
      clear hk
      go_wp2
      go_ret
      exact ⟨a', n', c', l', rfl, HL.out, HO.out, HD.out.mono (by omega)⟩
end Go.Proofs.YtkggjejcajcppaaGreat
