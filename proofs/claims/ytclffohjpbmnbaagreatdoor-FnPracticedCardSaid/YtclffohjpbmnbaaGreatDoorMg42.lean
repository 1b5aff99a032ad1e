import Derived.Test.YtclffohjpbmnbaaGreatDoorMg41
import Derived.Test.YtclffohjpbmnbaaGreatDoorMg40
import Derived.Test.YtclffohjpbmnbaaGreatDoorMg10
/- DrawB: lists of throws that are drawn, seldom no patterns. -/
namespace Go.Proofs.YtclffohjpbmnbaaGreatDoor
open Go.ChangeShapes Go.WideShapes Go.ChangeAt Go.RowKit

set_option maxRecDepth 100000 in
set_option maxHeartbeats 4000000 in
theorem l02Bent_c (b n : Nat) (w : World) (h : SrcAt w b n) (hn : n ≤ 1000000) : Calls Tryz.prog 50 #[.pointer (some ⟨b, 0, none⟩)] w (DrawsL b (n + 500) (fun l => l.length ≤ 13) w) := by
  have HS := Lib.hid h
  have hbl := h.lt
  clear h
  go_enter Tryz.func50, Tryz.ntmps50
  go_wp2_with fail
  refine (l02Draw_c b n 7 w HS.out (by omega) (by omega)).mono ?_
  rintro e w1 ⟨a, m, c, l, rfl, ⟨h1, h12, -, hin⟩, ho, hd⟩
  obtain ⟨hm, hh⟩ := ownHead ho
  have hm1 : 1 ≤ m := by omega
  have hm12 : m ≤ 12 := by omega
  obtain ⟨g, rfl, hg⟩ := hh hm1
  have HO := Lib.hid ho
  have HDr := Lib.hid hd
  have Hlen := Lib.hid hm
  have HI := Lib.hid hin
  clear h1 h12 hin ho hd hm hh
  go_wp2_with fail
  refine (pick_c b _ (m : Int) _ HDr.out.1 (by omega) (by omega)).mono ?_
  rintro e w2 ⟨r, rfl, hr, hd⟩
  have hrm : r < m := by omega
  replace HO := Lib.hid (own_drew HO.out hd hbl)
  replace HDr := Lib.hid (HDr.out.trans hd)
  clear hd hr
  go_wp2_with fail
  refine (pick_c b _ 14 _ HDr.out.1 (by omega) (by omega)).mono ?_
  rintro e w3 ⟨v, rfl, -, hd⟩
  replace HO := Lib.hid (own_drew HO.out hd hbl)
  replace HDr := Lib.hid (HDr.out.trans hd)
  clear hd
  by_cases h0 : v = 0
  · subst h0
    obtain ⟨e1, f1⟩ := ownCell HO.out r (by rw [← Hlen.out]; exact hrm)
    have hx := nth_in HI.out (show r < l.length by rw [← Hlen.out]; exact hrm)
    generalize nth l r = x at *
    have hsw := HDr.out.2.size
    go_wp2_with fail
    have hl4 := ints_lit (w := w3) [-1, 15, 16, x + 1] _ rfl _ rfl (by simp)
    have hbA : Below w3.heap.size w3 (w3.alloc (.cells (([-1, 15, 16, x + 1] : List Int).map (Value.int .i64)).toArray 2)) := by go_grown
    have HDA := Lib.hid (HDr.out.then_below hbA)
    have HOA := Lib.hid (own_below HO.out hbA)
    refine (among_c b _ _ [-1, 15, 16, x + 1] _ HDA.out.1 (by omega) hl4 (by simp) (by simp) (fun b' o m c e => by injection e with e1; injection e1 with e1; injection e1 with e1; omega)).mono ?_
    rintro e w4 ⟨r4, hr4, rfl, hd⟩
    clear HO HDr
    have HO := Lib.hid (own_drew HOA.out hd hbl)
    have HDr := Lib.hid (HDA.out.trans hd)
    clear hd HOA HDA hl4 hbA hr4 e1 f1 hx
    generalize nth ([-1, 15, 16, x + 1] : List Int) r4 = v0 at *
    obtain ⟨e1, f1⟩ := ownCell HO.out r (by rw [← Hlen.out]; exact hrm)
    have HO9 : Hid (OwnInts (w4.setCell ⟨g, r, none⟩ (.int .i64 v0)) w.heap.size (.slice (some ⟨g, 0, none⟩) m c) (l.set r v0)) := Lib.hid (ownSet HO.out r v0)
    have HD9 : Hid (Drew b (n + 500) w (w4.setCell ⟨g, r, none⟩ (.int .i64 v0))) := Lib.hid ((HDr.out.thenK ((Below.refl _ _).setCell hg _) hbl).mono (by omega))
    have HL9 : Hid ((l.set r v0).length ≤ 13) := Lib.hid (by rw [List.length_set, ← Hlen.out]; omega)
    clear HO HDr
    go_wp2
    go_ret
    exact ⟨_, m, c, _, rfl, HL9.out, HO9.out, HD9.out⟩
  have hz0 : ((v : Int) == 0) = false := beq_eq_false_iff_ne.2 (by omega)
  by_cases h1 : v = 1
  · subst h1
    go_wp2_with fail
    refine (pick_c b _ 10 _ HDr.out.1 (by omega) (by omega)).mono ?_
    rintro e w4 ⟨t, rfl, -, hd⟩
    replace HO := Lib.hid (own_drew HO.out hd hbl)
    replace HDr := Lib.hid (HDr.out.trans hd)
    clear hd
    obtain ⟨e1, f1⟩ := ownCell HO.out r (by rw [← Hlen.out]; exact hrm)
    have HO9 : Hid (OwnInts (w4.setCell ⟨g, r, none⟩ (.int .i64 (t : Int))) w.heap.size (.slice (some ⟨g, 0, none⟩) m c) (l.set r (t : Int))) := Lib.hid (ownSet HO.out r (t : Int))
    have HD9 : Hid (Drew b (n + 500) w (w4.setCell ⟨g, r, none⟩ (.int .i64 (t : Int)))) := Lib.hid ((HDr.out.thenK ((Below.refl _ _).setCell hg _) hbl).mono (by omega))
    have HL9 : Hid ((l.set r (t : Int)).length ≤ 13) := Lib.hid (by rw [List.length_set, ← Hlen.out]; omega)
    clear HO HDr
    go_wp2
    go_ret
    exact ⟨_, m, c, _, rfl, HL9.out, HO9.out, HD9.out⟩
  have hz1 : ((v : Int) == 1) = false := beq_eq_false_iff_ne.2 (by omega)
  by_cases h2 : v = 2
  · subst h2
    have hsw := HDr.out.2.size
    go_wp2
    go_ret
    exact ⟨_, 0, 0, [], rfl, by simp, own_mono (own_empty w3) hsw, (HDr.out.then_below (by go_grown)).mono (by omega)⟩
  have hz2 : ((v : Int) == 2) = false := beq_eq_false_iff_ne.2 (by omega)
  by_cases h3 : v = 3
  · subst h3
    go_wp2_with fail
    have HO3 := Lib.hid (own_empty w3)
    have hbA : Below w3.heap.size w3 (w3.alloc (.cells #[] 2)) := by go_grown
    have HD3 := Lib.hid (Drew.of_below HDr.out.1 hbA)
    have hsw := HDr.out.2.size
    have hb3 : b < w3.heap.size := by omega
    refine (pick_c b _ 2 _ HD3.out.1 (by omega) (by omega)).mono ?_
    rintro e w4 ⟨t, rfl, ht, hd⟩
    have ht2 : t ≤ 1 := by omega
    replace HO3 := Lib.hid (own_drew HO3.out hd hb3)
    replace HD3 := Lib.hid (HD3.out.trans hd)
    clear hd ht hbA
    go_wp2
    go_loopw [3] (fun o wr => ∃ (k : Nat) (a' : Option Addr) (c' : Nat) (l' : List Int), o = .slice a' k c' ∧ k ≤ 13 ∧ Hid (OwnInts wr w3.heap.size (.slice a' k c') l') ∧ Hid (Drew b (n + 450) w3 wr)) (fun o _ => 20 - lenOf o)
    case atStart => exact ⟨0, _, _, [], rfl, Nat.zero_le _, HO3, Lib.hid (HD3.out.mono (by omega))⟩
    case round =>
      obtain ⟨k, a', c', l', rfl, hk, HO, HDk⟩ := hrel
      have Hln : Hid (k = l'.length) := Lib.hid (ownHead HO.out).1
      by_cases hlt : k < 12 + t
      · have hs6 := HDk.out.2.size
        have hlt2 : (k : Int) < 12 + (t : Int) := by omega
        go_wp2_with (at_builtin; refine wpList_app_ints rfl _ _ rfl w3.heap.size _ _ rfl (HO.out.alloc _) _ _ _ [3] rfl rfl (ints_new _ _ _) (by have := Hln.out; simp only [List.length_cons, List.length_nil]; omega) (by simp; omega) ?_)
        intro a7 n7 c7 w7 ho7 hg7 _ hn7; clear hn7
        have hb7 : Below w3.heap.size wr w7 := ((Below.refl _ _).alloc (by omega) _).grown hg7 (by simp; omega) (fun g hg => (World.ownsRow.lt HO.out g hg).1)
        have HD7 := Lib.hid (HDk.out.thenK hb7 hb3)
        have hn7 := (ownHead ho7).1
        rw [List.length_append, ← Hln.out] at hn7
        simp only [List.length_cons, List.length_nil, Nat.zero_add] at hn7
        subst hn7
        have HO7 := Lib.hid ho7
        clear ho7 hg7 HO HDk hb7
        go_wp2
        exact ⟨⟨k + 1, a7, c7, _, rfl, by omega, HO7, HD7⟩, by simp [lenOf]; omega⟩
      · have hlt2 : ¬ (k : Int) < 12 + (t : Int) := by omega
        go_wp2
        go_ret
        exact ⟨a', k, c', l', rfl, (show l'.length ≤ 13 by rw [← Hln.out]; omega), own_mono HO.out hsw, (HDr.out.trans HDk.out).mono (by omega)⟩
  have hz3 : ((v : Int) == 3) = false := beq_eq_false_iff_ne.2 (by omega)
  clear h0 h1 h2 h3
  go_wp2
  go_ret
  exact ⟨_, m, c, l, rfl, by have := Hlen.out; omega, HO.out, HDr.out.mono (by omega)⟩
end Go.Proofs.YtclffohjpbmnbaaGreatDoor

/- TextD: texts that are drawn. -/
namespace Go.Proofs.YtclffohjpbmnbaaGreatDoor
open Go.ChangeShapes Go.WideShapes Go.ChangeAt Go.RowKit

theorem strs_lit {w : World} (xs : List ByteArray) (k : Nat) (hk : k = xs.length) (b : Nat) (hb : b = w.heap.size) (h1 : k ≤ 1000) : StrsAt (w.alloc (.cells (xs.map Value.string).toArray 9)) (.slice (some ⟨b, 0, none⟩) k k) xs := by
  subst hb hk
  refine ⟨some ⟨w.heap.size, 0, none⟩, _, _, rfl, rfl, Nat.le_refl _, by omega, fun i hi => ⟨w.heap.size, 0, rfl, by simp, ?_⟩⟩
  rw [World.cell?_alloc_at _ _ _ _ rfl]
  simp [nth_get? xs i hi]
theorem StrsAt.drew {w w' : World} {b n : Nat} {v : Value} {l : List ByteArray} (h : StrsAt w v l) (hd : Drew b n w w') (hv : 0 < l.length → ∀ b' o m c, v = .slice (some ⟨b', o, none⟩) m c → b' ≠ b) : StrsAt w' v l := by
  obtain ⟨a, m, c, rfl, h1, h2, h3, hc⟩ := h
  refine ⟨a, m, c, rfl, h1, h2, h3, fun i hi => ?_⟩
  obtain ⟨b', o, rfl, hs, c0⟩ := hc i hi
  have hne := hv (by omega) b' o m c rfl
  have hk := hd.2.block b' hs (by omega)
  exact ⟨b', o, rfl, Nat.lt_of_lt_of_le hs hd.2.size, (World.cell?_of_block (a := ⟨b', o + i, none⟩) hk).trans c0⟩
set_option maxHeartbeats 1000000 in
theorem text_c (b n : Nat) (v : Value) (l : List ByteArray) (w : World) (h : SrcAt w b n) (hn : n ≤ 100000000) (hv : StrsAt w v l) (hl : 0 < l.length) (hl2 : l.length ≤ 1000) (hvb : ∀ b' o m c, v = .slice (some ⟨b', o, none⟩) m c → b' ≠ b) :
    Calls Tryz.prog 127 #[.pointer (some ⟨b, 0, none⟩), v] w fun e w' => ∃ r : Nat, r < l.length ∧ e = .returned (.string (nth l r)) ∧ Drew b (n + 2) w w' := by
  have HV := Lib.hid hv
  obtain ⟨a, m, c, rfl, hm, -, -, -⟩ := hv
  have HP := Lib.hid (pick_c b n (m : Int) w h hn (by omega))
  have Hm := Lib.hid hm
  have Hvb := Lib.hid hvb
  have Hl := Lib.hid hl
  clear h hvb hm hl hl2
  go_enter Tryz.func127, Tryz.ntmps127
  go_wp2_with fail
  refine HP.out.mono ?_
  rintro e w1 ⟨r, rfl, hr, hd⟩
  have hrl : r < l.length := by have := Hm.out; have := Hl.out; omega
  obtain ⟨a', m', c', he, hm', -, -, hc⟩ := HV.out.drew hd (fun _ => Hvb.out)
  cases he
  obtain ⟨b', o, rfl, hbs, c0⟩ := hc r hrl
  have hrm : r < m := by have := Hm.out; omega
  have Hrl := Lib.hid hrl
  have HD := Lib.hid hd
  clear hm' hc hr hrl hd
  go_wp2
  go_ret
  exact ⟨r, Hrl.out, rfl, HD.out⟩
end Go.Proofs.YtclffohjpbmnbaaGreatDoor
