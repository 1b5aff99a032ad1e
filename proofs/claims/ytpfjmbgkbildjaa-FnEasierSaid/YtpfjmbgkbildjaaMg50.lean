import Derived.Test.YtpfjmbgkbildjaaMg49
/- DrawL: lists of throws, drawn from bytes. -/
namespace Go.Proofs.Ytpfjmbgkbildjaa
open Go.ChangeShapes Go.WideShapes Go.ChangeAt Go.RowKit

/-- A list, drawn from bytes. -/
def DrawnI (w : World) (e : Ending) (w' : World) : Prop := ∃ (a : Option Addr) (m c : Nat) (l : List Int), e = .returned (.slice a m c) ∧ l.length ≤ 13 ∧ OwnInts w' w.heap.size (.slice a m c) l ∧ Below w.heap.size w w'
set_option maxRecDepth 100000 in
theorem drawDifficultyOf_c (v : Value) (cs : List Int) (w : World) (hv : BytesAt w v cs) (hin : ∀ x ∈ cs, 0 ≤ x ∧ x ≤ 255) (hl : cs.length ≤ 4096) : Calls Try.prog 6 #[v] w (DrawnI w) := by
  have HV := Lib.hid hv
  have Hin := Lib.hid hin
  have Hcl := Lib.hid hl
  clear hv hin hl
  go_enter Try.func6, Try.ntmps6
  go_wp2_with fail
  refine (l00From_c v cs w HV.out Hin.out Hcl.out).mono ?_
  rintro e w1 ⟨rfl, hsrc, hb1⟩
  have hs1 := hb1.size
  go_wp2_with fail
  refine (l02Bent_c _ 0 w1 hsrc (by omega)).mono ?_
  rintro e w2 ⟨a, m, c, l, rfl, hl, ho, hd⟩
  have H1 := Lib.hid (show l.length ≤ 13 from hl)
  have H2 := Lib.hid (own_mono ho hs1)
  have H3 := Lib.hid (hb1.trans (hd.below hs1))
  clear hl ho hd hsrc hb1
  go_wp2
  go_ret
  exact ⟨a, m, c, l, rfl, H1.out, H2.out, H3.out⟩
set_option maxRecDepth 100000 in
theorem drawEasiestSwap_c (v : Value) (cs : List Int) (w : World) (hv : BytesAt w v cs) (hin : ∀ x ∈ cs, 0 ≤ x ∧ x ≤ 255) (hl : cs.length ≤ 4096) : Calls Try.prog 32 #[v] w (DrawnI w) := by
  have HV := Lib.hid hv
  have Hin := Lib.hid hin
  have Hcl := Lib.hid hl
  clear hv hin hl
  go_enter Try.func32, Try.ntmps32
  go_wp2_with fail
  refine (l00From_c v cs w HV.out Hin.out Hcl.out).mono ?_
  rintro e w1 ⟨rfl, hsrc, hb1⟩
  have hs1 := hb1.size
  go_wp2_with fail
  refine (l02Bent_c _ 0 w1 hsrc (by omega)).mono ?_
  rintro e w2 ⟨a, m, c, l, rfl, hl, ho, hd⟩
  have H1 := Lib.hid (show l.length ≤ 13 from hl)
  have H2 := Lib.hid (own_mono ho hs1)
  have H3 := Lib.hid (hb1.trans (hd.below hs1))
  clear hl ho hd hsrc hb1
  go_wp2
  go_ret
  exact ⟨a, m, c, l, rfl, H1.out, H2.out, H3.out⟩
set_option maxRecDepth 100000 in
set_option maxHeartbeats 1000000 in
theorem drawGradeOf_c (v : Value) (cs : List Int) (w : World) (hv : BytesAt w v cs) (hin : ∀ x ∈ cs, 0 ≤ x ∧ x ≤ 255) (hl : cs.length ≤ 4096) : Calls Try.prog 21 #[v] w (DrawnI w) := by
  have HV := Lib.hid hv
  have Hin := Lib.hid hin
  have Hcl := Lib.hid hl
  clear hv hin hl
  go_enter Try.func21, Try.ntmps21
  go_wp2_with fail
  refine (l00From_c v cs w HV.out Hin.out Hcl.out).mono ?_
  rintro e w1 ⟨rfl, hsrc, hb1⟩
  have hs1 := hb1.size
  have hbl := hsrc.lt
  have HB1 := Lib.hid hb1
  have HS := Lib.hid hsrc
  clear hsrc hb1
  generalize hB : w.heap.size = b at *
  go_wp2_with fail
  refine (one_c b 0 4 w1 HS.out (by omega) (by omega)).mono ?_
  rintro e w2 ⟨d, rfl, hd⟩
  have HD := Lib.hid hd
  clear hd HS
  cases d
  · go_wp2_with fail
    refine (l02Bent_c b _ w2 HD.out.1 (by omega)).mono ?_
    rintro e w3 ⟨a, m, c, l, rfl, hl, ho, hd⟩
    have hs2 := HD.out.2.size
    have H1 := Lib.hid (show l.length ≤ 13 from hl)
    have H2 : Hid (OwnInts w3 w.heap.size (.slice a m c) l) := Lib.hid (own_mono ho (by omega))
    have H3 : Hid (Below w.heap.size w w3) := Lib.hid (by rw [hB]; exact HB1.out.trans ((HD.out.trans hd).below hs1))
    clear hl ho hd HD
    go_wp2
    go_ret
    exact ⟨a, m, c, l, rfl, H1.out, H2.out, H3.out⟩
  · go_wp2_with fail
    refine (pick_c b _ 3 _ HD.out.1 (by omega) (by omega)).mono ?_
    rintro e w3 ⟨t, rfl, ht, hd⟩
    have ht2 : t ≤ 2 := by omega
    replace HD := Lib.hid (HD.out.trans hd)
    have hs3 := HD.out.2.size
    have hb3 : b < w3.heap.size := by omega
    clear hd ht
    go_wp2
    go_loopw [5, 6] (fun o i wr => ∃ (k : Nat) (a' : Option Addr) (c' : Nat) (l' : List Int), i = .int .i64 k ∧ o = .slice a' k c' ∧ k ≤ 1 + t ∧ Hid (OwnInts wr w3.heap.size (.slice a' k c') l') ∧ Hid (Drew b (100 + 2 * k) w3 wr)) (fun _ i _ => 20 - (intOf i).toNat)
    case atStart => exact ⟨0, _, _, [], rfl, rfl, Nat.zero_le _, Lib.hid (own_empty w3), Lib.hid ((Drew.of_below HD.out.1 (by go_grown)).mono (by omega))⟩
    case round =>
      obtain ⟨k, a', c', l', rfl, rfl, hk, HO, HDk⟩ := hrel
      have Hln : Hid (k = l'.length) := Lib.hid (ownHead HO.out).1
      by_cases hlt : k < 1 + t
      · have hlt2 : (k : Int) < 1 + (t : Int) := by omega
        go_wp2_with fail
        refine (pick_c b _ 13 _ HDk.out.1 (by omega) (by omega)).mono ?_
        rintro e w4 ⟨u, rfl, hu, hd⟩
        have hu2 : u ≤ 12 := by omega
        replace HO := Lib.hid (own_drew HO.out hd hb3)
        replace HDk := Lib.hid (HDk.out.trans hd)
        have hs6 := HDk.out.2.size
        clear hd hu
        go_wp2_with (at_builtin; refine wpList_app_ints rfl _ _ rfl w3.heap.size _ _ rfl (HO.out.alloc _) _ _ _ [3 + (u : Int)] rfl rfl (ints_new _ _ _) (by have := Hln.out; simp only [List.length_cons, List.length_nil]; omega) (by simp; omega) ?_)
        intro a7 n7 c7 w7 ho7 hg7 _ hn7; clear hn7
        have hb7 : Below w3.heap.size w4 w7 := ((Below.refl _ _).alloc (by omega) _).grown hg7 (by simp; omega) (fun g hg => (World.ownsRow.lt HO.out g hg).1)
        have HD7 := Lib.hid (HDk.out.thenK hb7 hb3)
        have hn7 := (ownHead ho7).1
        rw [List.length_append, ← Hln.out] at hn7
        simp only [List.length_cons, List.length_nil, Nat.zero_add] at hn7
        subst hn7
        have HO7 := Lib.hid ho7
        clear ho7 hg7 HO HDk hb7
        go_wp2
        exact ⟨⟨k + 1, a7, c7, _, by go_num, rfl, by omega, HO7, Lib.hid (HD7.out.mono (by omega))⟩, by simp [intOf]; omega⟩
      · have hlt2 : ¬ (k : Int) < 1 + (t : Int) := by omega
        have H2 : Hid (OwnInts wr w.heap.size (.slice a' k c') l') := Lib.hid (own_mono HO.out (by omega))
        have H3 : Hid (Below w.heap.size w wr) := Lib.hid (by rw [hB]; exact HB1.out.trans ((HD.out.trans HDk.out).below hs1))
        clear HO HDk
        go_wp2
        go_ret
        exact ⟨a', k, c', l', rfl, by rw [← Hln.out]; omega, H2.out, H3.out⟩
end Go.Proofs.Ytpfjmbgkbildjaa
