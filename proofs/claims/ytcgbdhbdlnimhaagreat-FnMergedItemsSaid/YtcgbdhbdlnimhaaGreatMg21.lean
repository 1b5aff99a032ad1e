import Derived.Test.YtcgbdhbdlnimhaaGreatMg20
import Derived.Test.YtcgbdhbdlnimhaaGreatMg9
/- TextD: texts that are drawn. -/
namespace Go.Proofs.YtcgbdhbdlnimhaaGreat
open Go.ChangeShapes Go.WideShapes Go.ChangeAt Go.RowKit

theorem strs_lit {w : World} (xs : List ByteArray) (k : Nat) (hk : k = xs.length) (b : Nat) (hb : b = w.heap.size) (h1 : k ≤ 1000) : StrsAt (w.alloc (.cells (xs.map Value.string).toArray 9)) (.slice (some ⟨b, 0, none⟩) k k) xs := by
  subst hb hk
  refine ⟨some ⟨w.heap.size, 0, none⟩, _, _, rfl, rfl, Nat.le_refl _, by omega, fun i hi => ⟨w.heap.size, 0, rfl, by simp, ?_⟩⟩
  rw [World.cell?_alloc_at _ _ _ _ rfl]
  simp [nth_get? xs i hi]
theorem StrsAt.drew {w w' : World} {b n : Nat} {v : Value} {l : List ByteArray} (h : StrsAt w v l) (hd : Drew b n w w') (hv : 0 < l.length → ∀ b' o m c, v = .slice (some ⟨b', o, none⟩) m c → b' ≠ b) : StrsAt w' v l := by
  obtain ⟨a, m, c, rfl, h1, h2, h3, hc⟩ := h
  refine ⟨a, m, c, rfl, h1, h2, h3, fun i hi => ?_⟩
  obtain ⟨b', o, rfl, hs, c0⟩ := hc i hi
  have hne := hv (by omega) b' o m c rfl
  have hk := hd.2.block b' hs (by omega)
  exact ⟨b', o, rfl, Nat.lt_of_lt_of_le hs hd.2.size, (World.cell?_of_block (a := ⟨b', o + i, none⟩) hk).trans c0⟩
set_option maxHeartbeats 1000000 in
theorem text_c (b n : Nat) (v : Value) (l : List ByteArray) (w : World) (h : SrcAt w b n) (hn : n ≤ 100000000) (hv : StrsAt w v l) (hl : 0 < l.length) (hl2 : l.length ≤ 1000) (hvb : ∀ b' o m c, v = .slice (some ⟨b', o, none⟩) m c → b' ≠ b) :
    Calls Tryz.prog 83 #[.pointer (some ⟨b, 0, none⟩), v] w fun e w' => ∃ r : Nat, r < l.length ∧ e = .returned (.string (nth l r)) ∧ Drew b (n + 2) w w' := by
  have HV := Lib.hid hv
  obtain ⟨a, m, c, rfl, hm, -, -, -⟩ := hv
  have HP := Lib.hid (pick_c b n (m : Int) w h hn (by omega))
  have Hm := Lib.hid hm
  have Hvb := Lib.hid hvb
  have Hl := Lib.hid hl
  clear h hvb hm hl hl2
  go_enter Tryz.func83, Tryz.ntmps83
  go_wp2_with fail
  refine HP.out.mono ?_
  rintro e w1 ⟨r, rfl, hr, hd⟩
  have hrl : r < l.length := by have := Hm.out; have := Hl.out; omega
  obtain ⟨a', m', c', he, hm', -, -, hc⟩ := HV.out.drew hd (fun _ => Hvb.out)
  cases he
  obtain ⟨b', o, rfl, hbs, c0⟩ := hc r hrl
  have hrm : r < m := by have := Hm.out; omega
  have Hrl := Lib.hid hrl
  have HD := Lib.hid hd
  clear hm' hc hr hrl hd
  go_wp2
  go_ret
  exact ⟨r, Hrl.out, rfl, HD.out⟩
end Go.Proofs.YtcgbdhbdlnimhaaGreat

/- DrawI0: names of items that are drawn. -/
namespace Go.Proofs.YtcgbdhbdlnimhaaGreat
open Go.ChangeShapes Go.WideShapes Go.ChangeAt Go.RowKit

def itemBad : List ByteArray := [{ data := #[] }, { data := #[67, 97, 115, 99, 97, 100, 101] }, { data := #[55, 117, 112] }, { data := #[97, 32, 98] }]
def itemNames : List ByteArray := [{ data := #[99, 97, 115, 99, 97, 100, 101] }, { data := #[116, 111, 119, 101, 114] }, { data := #[109, 105, 110, 101] }, { data := #[120] }, { data := #[115, 104, 111, 119, 101, 114] }, { data := #[98, 111, 120] }, { data := #[110, 101, 119, 45, 49] }, { data := #[122, 105, 103] }]
theorem itemBad_le (r : Nat) (h : r < 4) : (nth itemBad r).size ≤ 7 := by
  have h5 : r = 0 ∨ r = 1 ∨ r = 2 ∨ r = 3 := by omega
  rcases h5 with rfl | rfl | rfl | rfl <;> decide
theorem itemNames_le (r : Nat) (h : r < 8) : (nth itemNames r).size ≤ 7 := by
  have h5 : r = 0 ∨ r = 1 ∨ r = 2 ∨ r = 3 ∨ r = 4 ∨ r = 5 ∨ r = 6 ∨ r = 7 := by omega
  rcases h5 with rfl | rfl | rfl | rfl | rfl | rfl | rfl | rfl <;> decide
theorem l22Name_c (b n : Nat) (w : World) (h : SrcAt w b n) (hn : n ≤ 10000000) : Calls Tryz.prog 43 #[.pointer (some ⟨b, 0, none⟩)] w fun e w' => ∃ s : ByteArray, s.size ≤ 7 ∧ e = .returned (.string s) ∧ Drew b (n + 4) w w' := by
  have HS := Lib.hid h
  have hbl := h.lt
  clear h
  go_enter Tryz.func43, Tryz.ntmps43
  go_wp2_with fail
  refine (one_c b n 16 w HS.out (by omega) (by omega)).mono ?_
  rintro e w1 ⟨d, rfl, hd⟩
  have HD := Lib.hid hd
  have hs1 := hd.2.size
  clear hd HS
  cases d
  · go_wp2_with fail
    have hl4 := strs_lit (w := w1) itemNames 8 rfl _ rfl (by decide)
    have hbA : Below w1.heap.size w1 (w1.alloc (.cells (itemNames.map Value.string).toArray 9)) := by go_grown
    have HDA := Lib.hid (HD.out.then_below hbA)
    refine (text_c b _ _ itemNames _ HDA.out.1 (by omega) hl4 (by decide) (by decide) (fun b' o m c e => by injection e with e1; injection e1 with e1; injection e1 with e1; omega)).mono ?_
    rintro e w2 ⟨r, hr, rfl, hd⟩
    have H := Lib.hid ((HDA.out.trans hd).mono (show _ ≤ n + 4 by omega))
    have Hv := Lib.hid (itemNames_le r hr)
    clear hd HD HDA hl4 hbA hr
    generalize nth itemNames r = x at *
    go_wp2
    go_ret
    exact ⟨x, Hv.out, rfl, H.out⟩
  · go_wp2_with fail
    have hl4 := strs_lit (w := w1) itemBad 4 rfl _ rfl (by decide)
    have hbA : Below w1.heap.size w1 (w1.alloc (.cells (itemBad.map Value.string).toArray 9)) := by go_grown
    have HDA := Lib.hid (HD.out.then_below hbA)
    refine (text_c b _ _ itemBad _ HDA.out.1 (by omega) hl4 (by decide) (by decide) (fun b' o m c e => by injection e with e1; injection e1 with e1; injection e1 with e1; omega)).mono ?_
    rintro e w2 ⟨r, hr, rfl, hd⟩
    have H := Lib.hid ((HDA.out.trans hd).mono (show _ ≤ n + 4 by omega))
    have Hv := Lib.hid (itemBad_le r hr)
    clear hd HD HDA hl4 hbA hr
    generalize nth itemBad r = x at *
    go_wp2
    go_ret
    exact ⟨x, Hv.out, rfl, H.out⟩
end Go.Proofs.YtcgbdhbdlnimhaaGreat
