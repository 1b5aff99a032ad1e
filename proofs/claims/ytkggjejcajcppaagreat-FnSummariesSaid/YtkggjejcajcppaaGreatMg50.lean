import Derived.Test.YtkggjejcajcppaaGreatMg49
/- DrawA2: lists of attempts that are drawn, seldom not valid; what the laws on attempts draw. -/
namespace Go.Proofs.YtkggjejcajcppaaGreat
open Go.ChangeShapes Go.WideShapes Go.ChangeAt Go.RowKit

theorem own_oneA (w : World) (x : Int) : OwnInts (w.alloc (.cells #[.int .i64 x] 2)) w.heap.size (.slice (some ⟨w.heap.size, 0, none⟩) 1 1) [x] :=
  World.ownsRow_lit w #[.int .i64 x] 1 (Nat.le_refl _) (by decide) rfl
set_option maxRecDepth 100000 in
set_option maxHeartbeats 4000000 in
theorem l24Bent_c (b n : Nat) (w : World) (h : SrcAt w b n) (hn : n ≤ 10000) : Calls Tryz.prog 30 #[.pointer (some ⟨b, 0, none⟩)] w (DrawsA 150 b (n + 8000) w) := by
  have HS := Lib.hid h
  have hbl := h.lt
  clear h
  go_enter Tryz.func30, Tryz.ntmps30
  go_wp2_with fail
  refine (l24Draw_c b n w HS.out (by omega)).mono ?_
  rintro e w1 ⟨a, m, c, l, rfl, hl, ho, hd⟩
  have HO := Lib.hid ho
  have HD := Lib.hid hd
  have Hl : Hid (l.length ≤ 9) := Lib.hid hl
  clear ho hd HS hl
  go_wp2_with fail
  refine (pick_c b _ 24 _ HD.out.1 (by omega) (by omega)).mono ?_
  rintro e w2 ⟨v, rfl, -, hd⟩
  replace HO : Hid (OwnAtts w2 w.heap.size (.slice a m c) l) := Lib.hid (nest_drew HO.out hd hbl)
  replace HD := Lib.hid (HD.out.trans hd)
  clear hd
  have hs2 := HD.out.2.size
  have hb2 : b < w2.heap.size := by omega
  by_cases h0 : v = 0
  · subst h0
    go_wp2_with fail
    refine (l02Bent_c b _ w2 HD.out.1 (by omega)).mono ?_
    rintro e w3 ⟨pa, pn, pc, x, rfl, -, ho, hd⟩
    go_wp2_with (at_builtin; refine wpList_snoc_atts rfl _ _ rfl w.heap.size b _ _ l _ _ _ x 0 false rfl HO.out hd hbl hs2 ho _ rfl rfl (by have := Hl.out; omega) ?_)
    intro a7 n7 c7 w7 ho7 hb7 hn7; clear hn7
    have HD7 := Lib.hid (((HD.out.trans hd).thenK hb7 hbl).mono (show _ ≤ n + 8000 by omega))
    have HO7 := Lib.hid ho7
    clear ho7 hb7
    go_wp2
    go_ret
    exact ⟨a7, n7, c7, _, rfl, (by have := Hl.out; simp; omega), HO7.out, HD7.out⟩
  have hz0 : ((v : Int) == 0) = false := beq_eq_false_iff_ne.2 (by omega)
  by_cases h1 : v = 1
  · subst h1
    go_wp2_with fail
    have hbA : Below w2.heap.size w2 (w2.alloc (.cells #[.int .i64 3] 2)) := by go_grown
    have HDA := Lib.hid (Drew.of_below HD.out.1 hbA)
    have HP := Lib.hid (own_oneA w2 3)
    have hsA : (w2.alloc (.cells #[.int .i64 3] 2)).heap.size = w2.heap.size + 1 := by simp
    have hl4 := ints_lit (w := w2.alloc (.cells #[.int .i64 3] 2)) [-1, 100000, 100001] 3 rfl (w2.heap.size + 1) hsA.symm (by decide)
    have hbB : Below (w2.alloc (.cells #[.int .i64 3] 2)).heap.size (w2.alloc (.cells #[.int .i64 3] 2)) ((w2.alloc (.cells #[.int .i64 3] 2)).alloc (.cells (([-1, 100000, 100001] : List Int).map (Value.int .i64)).toArray 2)) := by go_grown
    have HDB := Lib.hid (HDA.out.then_below hbB)
    have HPB := Lib.hid (own_below HP.out hbB)
    refine (among_c b _ _ [-1, 100000, 100001] _ HDB.out.1 (by omega) hl4 (by decide) (by decide) (fun b' o m c e => by injection e with e1; injection e1 with e1; injection e1 with e1; omega)).mono ?_
    rintro e w3 ⟨r4, hr4, rfl, hd⟩
    have HPC := Lib.hid (own_drew HPB.out hd hb2)
    have HDC := Lib.hid (HDB.out.trans hd)
    clear hd hl4 hbA hbB HDA HDB HP HPB hr4 hsA
    generalize nth ([-1, 100000, 100001] : List Int) r4 = v0 at *
    go_wp2_with (at_builtin; refine wpList_snoc_atts rfl _ _ rfl w.heap.size b _ _ l _ _ _ [3] v0 false rfl HO.out HDC.out hbl hs2 HPC.out _ rfl rfl (by have := Hl.out; omega) ?_)
    intro a7 n7 c7 w7 ho7 hb7 hn7; clear hn7
    have HD7 := Lib.hid (((HD.out.trans HDC.out).thenK hb7 hbl).mono (show _ ≤ n + 8000 by omega))
    have HO7 := Lib.hid ho7
    clear ho7 hb7
    go_wp2
    go_ret
    exact ⟨a7, n7, c7, _, rfl, (by have := Hl.out; simp; omega), HO7.out, HD7.out⟩
  have hz1 : ((v : Int) == 1) = false := beq_eq_false_iff_ne.2 (by omega)
  by_cases h2 : v = 2
  · subst h2
    go_wp2
    go_loopw [3] (fun o wr => ∃ (a' : Option Addr) (n' c' : Nat) (l' : List Att), o = .slice a' n' c' ∧ n' ≤ 101 ∧ Hid (OwnAtts wr w.heap.size (.slice a' n' c') l') ∧ Hid (Drew b (n + 6100 + 2 * n') w wr)) (fun o _ => 200 - lenOf o)
    case atStart => exact ⟨a, m, c, l, rfl, by have := ownLen HO.out; have := Hl.out; omega, HO, Lib.hid (HD.out.mono (by omega))⟩
    case round =>
      clear HO HD
      obtain ⟨a', n', c', l', rfl, hn', HO, HD⟩ := hrel
      have Hln := Lib.hid (ownLen HO.out)
      go_wp2_with fail
      refine (pick_c b _ 2 _ HD.out.1 (by omega) (by omega)).mono ?_
      rintro e w3 ⟨u, rfl, hu, hd⟩
      have hu1 : u ≤ 1 := by omega
      replace HO : Hid (OwnAtts w3 w.heap.size (.slice a' n' c') l') := Lib.hid (nest_drew HO.out hd hbl)
      replace HD := Lib.hid (HD.out.trans hd)
      have hs3 := HD.out.2.size
      clear hd hu
      by_cases hlt : n' < 100 + u
      · have hlt2 : (n' : Int) < 100 + (u : Int) := by omega
        go_wp2_with (at_builtin; refine wpList_snoc_atts (W1 := w3.alloc (.cells #[.int .i64 3] 2)) rfl _ _ rfl w.heap.size b _ _ l' _ _ _ [3] 7 false rfl HO.out (Drew.of_below HD.out.1 (show Below w3.heap.size w3 (w3.alloc (.cells #[.int .i64 3] 2)) by go_grown)) hbl hs3 (own_oneA w3 3) _ rfl (by simp) (by have := Hln.out; omega) ?_)
        intro a7 n7 c7 w7 ho7 hb7 hn7
        have HD7 := Lib.hid ((HD.out.then_below (show Below w3.heap.size w3 (w3.alloc (.cells #[.int .i64 3] 2)) by go_grown)).thenK hb7 hbl)
        obtain rfl : n7 = n' + 1 := by rw [hn7, Hln.out]
        have HO7 := Lib.hid ho7
        clear ho7 hb7 hn7 HO HD
        go_wp2
        exact ⟨⟨a7, _, c7, _, rfl, by omega, HO7, Lib.hid (HD7.out.mono (by omega))⟩, by simp [lenOf]; omega⟩
      · have hlt2 : ¬ (n' : Int) < 100 + (u : Int) := by omega
        go_wp2
        go_ret
        exact ⟨a', n', c', l', rfl, (by have := Hln.out; omega), HO.out, HD.out.mono (by omega)⟩
  have hz2 : ((v : Int) == 2) = false := beq_eq_false_iff_ne.2 (by omega)
  clear h0 h1 h2
  go_wp2
  go_ret
  exact ⟨a, m, c, l, rfl, (by have := Hl.out; omega), HO.out, HD.out.mono (by omega)⟩
end Go.Proofs.YtkggjejcajcppaaGreat
