import Derived.Test.YtoaegfoapkmdnaaMg11
import Derived.Test.YtoaegfoapkmdnaaMg16
import Derived.Test.YtoaegfoapkmdnaaMg35
/- MarkQ: queries that the law copies and marks. -/
namespace Go.Proofs.Ytoaegfoapkmdnaa
open Go.ChangeShapes Go.WideShapes Go.ChangeAt Go.RowKit

def InQuery (w : World) (lo hi : Nat) (q : Query) (y z : Value) : Prop := ∃ mid, lo ≤ mid ∧ mid ≤ hi ∧ InInts w lo mid y q.need ∧ InInts w mid hi z q.avoid
theorem InQuery.below {w w' : World} {lo hi : Nat} {q : Query} {y z : Value} (h : InQuery w lo hi q y z) (hb : Below w.heap.size w w') : InQuery w' lo hi q y z := by
  obtain ⟨m, h1, h2, h3, h4⟩ := h; exact ⟨m, h1, h2, h3.below hb, h4.below hb⟩
theorem InQuery.turned {w w' : World} {lo hi lo' hi' : Nat} {q : Query} {y z : Value} (h : InQuery w lo hi q y z) (ht : Turned lo' hi' w w') (hd : hi ≤ lo' ∨ hi' ≤ lo) : InQuery w' lo hi q y z := by
  obtain ⟨m, h1, h2, h3, h4⟩ := h; exact ⟨m, h1, h2, h3.turned ht (by omega), h4.turned ht (by omega)⟩
theorem InQuery.at {w : World} {lo hi : Nat} {q : Query} {y z : Value} (h : InQuery w lo hi q y z) : QAt w q y z := by
  obtain ⟨m, h1, h2, h3, h4⟩ := h; exact ⟨h3.at, h4.at⟩
theorem BoxIs.turned {w w' : World} {lo hi b : Nat} {l : List Value} (h : BoxIs w b l) (ht : Turned lo hi w w') (hd : b < lo ∨ hi ≤ b) : BoxIs w' b l :=
  ⟨Nat.lt_of_lt_of_le h.1 ht.size, fun j => (World.cell?_of_block (a := ⟨b, j, none⟩) (ht.block b h.1 hd)).trans (h.2.1 j), fun j => (World.frozen?_of_block (a := ⟨b, j, none⟩) (ht.block b h.1 hd)).trans (h.2.2 j)⟩
end Go.Proofs.Ytoaegfoapkmdnaa

/- DrawQ: queries that are drawn. -/
namespace Go.Proofs.Ytoaegfoapkmdnaa
open Go.ChangeShapes Go.WideShapes Go.ChangeAt Go.RowKit

theorem box_drew {w w' : World} {b n c : Nat} {l : List Value} (h : BoxIs w c l) (hd : Drew b n w w') (hc : c ≠ b) : BoxIs w' c l := h.turned hd.2 (by omega)
theorem own_fresh {w : World} {base : Nat} {v : Value} {l : List Int} (h : OwnInts w base v l) : ∀ b' o m c, v = .slice (some ⟨b', o, none⟩) m c → base ≤ b' := by
  rintro b' o m c rfl
  exact (World.ownsRow.lt h b' rfl).1
set_option maxHeartbeats 2000000 in
theorem l00Put_c (v : Value) (l : List Int) (x : Int) (w : World) (hv : IntsAt w v l) (hl : l.length ≤ 1000) :
    Calls Try.prog 59 #[v, .int .i64 x] w fun e w' => ∃ l', l'.length ≤ l.length + 1 ∧ (∃ a n c, e = .returned (.slice a n c) ∧ OwnInts w' w.heap.size (.slice a n c) l' ∧ Below w.heap.size w w') := by
  obtain ⟨a, n, cap, rfl, hn, -, hm, hc⟩ := hv
  have Hc := Lib.hid hc; clear hc
  have Hn := Lib.hid hn
  have hn20 : n ≤ 1000 := by omega
  clear hn hl
  go_enter Try.func59, Try.ntmps59
  go_wp2
  go_loopw [5, 6, 7] (fun o d i wr => ∃ (k : Nat) (a' : Option Addr) (n' c' : Nat) (l' : List Int) (dn : Bool), i = .int .i64 k ∧ k ≤ n ∧ o = .slice a' n' c' ∧ d = .bool dn ∧ l'.length ≤ k + dn.toNat ∧ Hid (OwnInts wr w.heap.size (.slice a' n' c') l') ∧ Below w.heap.size w wr) (fun _ _ i _ => n - (intOf i).toNat)
  case atStart => exact ⟨0, _, _, _, [], false, rfl, Nat.zero_le _, rfl, rfl, Nat.zero_le _, Lib.hid (own_empty w), by go_grown⟩
  case round =>
    obtain ⟨k, a', n', c', l', dn, rfl, hk, rfl, rfl, hl', HO, hb⟩ := hrel
    by_cases hlt : k < n
    · obtain ⟨b, o, rfl, hbs, c0⟩ := Hc.out k (by rw [← Hn.out]; exact hlt)
      have c1 := cell_then hbs c0 hb
      have hsz := hb.size
      generalize nth l k = y at *
      cases dn
      · simp only [Bool.toNat_false] at hl'
        by_cases hge : x ≤ y
        · have hge2 : decide (x ≤ y) = true := decide_eq_true hge
          by_cases hgt : x < y
          · have hgt2 : decide (x < y) = true := decide_eq_true hgt
            go_wp2_with (at_builtin; refine wpList_app_ints rfl _ _ rfl w.heap.size _ _ rfl (HO.out.alloc _) _ _ _ [x] rfl rfl (ints_new _ _ _) (by simp only [List.length_cons, List.length_nil]; omega) (by simp; omega) ?_)
            intro a6 n6 c6 w6 ho6 hg6 _ hn6; clear hn6
            have hb6 : Below w.heap.size w w6 := (hb.alloc hsz _).grown hg6 (by simp; omega) (fun g hg => (World.ownsRow.lt HO.out g hg).1)
            have HO6 := Lib.hid ho6
            have hs6 := hb6.size
            have c2 := cell_then hbs c0 hb6
            clear ho6 hg6 HO c1 hb
            go_wp2_with (at_builtin; refine wpList_app_ints rfl _ _ rfl w.heap.size _ _ rfl (HO6.out.alloc _) _ _ _ [y] rfl rfl (ints_new _ _ _) (by simp only [List.length_append, List.length_cons, List.length_nil]; omega) (by simp; omega) ?_)
            intro a7 n7 c7 w7 ho7 hg7 _ _
            have hb7 : Below w.heap.size w w7 := (hb6.alloc hs6 _).grown hg7 (by simp; omega) (fun g hg => (World.ownsRow.lt HO6.out g hg).1)
            have HO7 := Lib.hid ho7
            clear ho7 hg7 HO6 c2 hb6
            go_wp2
            exact ⟨⟨k + 1, a7, n7, c7, _, true, by go_num, hlt, rfl, rfl, by simp; omega, HO7, hb7⟩, by simp [intOf]; omega⟩
          · have hgt2 : decide (x < y) = false := decide_eq_false hgt
            go_wp2_with (at_builtin; refine wpList_app_ints rfl _ _ rfl w.heap.size _ _ rfl (HO.out.alloc _) _ _ _ [y] rfl rfl (ints_new _ _ _) (by simp only [List.length_cons, List.length_nil]; omega) (by simp; omega) ?_)
            intro a7 n7 c7 w7 ho7 hg7 _ _
            have hb7 : Below w.heap.size w w7 := (hb.alloc hsz _).grown hg7 (by simp; omega) (fun g hg => (World.ownsRow.lt HO.out g hg).1)
            have HO7 := Lib.hid ho7
            clear ho7 hg7 HO c1 hb
            go_wp2
            exact ⟨⟨k + 1, a7, n7, c7, _, true, by go_num, hlt, rfl, rfl, by simp; omega, HO7, hb7⟩, by simp [intOf]; omega⟩
        · have hge2 : decide (x ≤ y) = false := decide_eq_false hge
          go_wp2_with (at_builtin; refine wpList_app_ints rfl _ _ rfl w.heap.size _ _ rfl (HO.out.alloc _) _ _ _ [y] rfl rfl (ints_new _ _ _) (by simp only [List.length_cons, List.length_nil]; omega) (by simp; omega) ?_)
          intro a7 n7 c7 w7 ho7 hg7 _ _
          have hb7 : Below w.heap.size w w7 := (hb.alloc hsz _).grown hg7 (by simp; omega) (fun g hg => (World.ownsRow.lt HO.out g hg).1)
          have HO7 := Lib.hid ho7
          clear ho7 hg7 HO c1 hb
          go_wp2
          exact ⟨⟨k + 1, a7, n7, c7, _, false, by go_num, hlt, rfl, rfl, by simp; omega, HO7, hb7⟩, by simp [intOf]; omega⟩
      · simp only [Bool.toNat_true] at hl'
        go_wp2_with (at_builtin; refine wpList_app_ints rfl _ _ rfl w.heap.size _ _ rfl (HO.out.alloc _) _ _ _ [y] rfl rfl (ints_new _ _ _) (by simp only [List.length_cons, List.length_nil]; omega) (by simp; omega) ?_)
        intro a7 n7 c7 w7 ho7 hg7 _ _
        have hb7 : Below w.heap.size w w7 := (hb.alloc hsz _).grown hg7 (by simp; omega) (fun g hg => (World.ownsRow.lt HO.out g hg).1)
        have HO7 := Lib.hid ho7
        clear ho7 hg7 HO c1 hb
        go_wp2
        exact ⟨⟨k + 1, a7, n7, c7, _, true, by go_num, hlt, rfl, rfl, by simp; omega, HO7, hb7⟩, by simp [intOf]; omega⟩
    · obtain rfl : k = n := by omega
      have hsz := hb.size
      cases dn
      · simp only [Bool.toNat_false] at hl'
        go_wp2_with (at_builtin; refine wpList_app_ints rfl _ _ rfl w.heap.size _ _ rfl (HO.out.alloc _) _ _ _ [x] rfl rfl (ints_new _ _ _) (by simp only [List.length_cons, List.length_nil]; omega) (by simp; omega) ?_)
        intro a7 n7 c7 w7 ho7 hg7 _ _
        have hb7 : Below w.heap.size w w7 := (hb.alloc hsz _).grown hg7 (by simp; omega) (fun g hg => (World.ownsRow.lt HO.out g hg).1)
        have HO7 := Lib.hid ho7
        clear ho7 hg7 HO hb
        go_wp2
        go_ret
        exact ⟨_, by have := Hn.out; simp; omega, a7, n7, c7, rfl, HO7.out, hb7⟩
      · simp only [Bool.toNat_true] at hl'
        go_wp2
        go_ret
        exact ⟨_, by have := Hn.out; omega, a', n', c', rfl, HO.out, hb⟩
set_option maxHeartbeats 1000000 in
theorem l21Throws_c (b n : Nat) (w : World) (h : SrcAt w b n) (hn : n ≤ 10000000) : Calls Try.prog 47 #[.pointer (some ⟨b, 0, none⟩)] w (DrawsL b (n + 100) (fun l => l.length ≤ 2) w) := by
  have HS := Lib.hid h
  have hbl := h.lt
  clear h
  go_enter Try.func47, Try.ntmps47
  go_wp2_with fail
  refine (pick_c b n 3 _ (HS.out.below (by go_grown)) (by omega) (by omega)).mono ?_
  rintro e w1 ⟨r, rfl, hr, hd⟩
  have hr2 : r ≤ 2 := by omega
  have hsz := hd.2.size
  simp only [World.size_alloc] at hsz
  have HO0 := Lib.hid (own_drew (own_empty w) hd hbl)
  have HD : Hid (Drew b (n + 2) w w1) := Lib.hid ((Drew.of_below HS.out (by go_grown)).trans hd)
  clear hd hr
  go_wp2
  go_loopw [3, 4] (fun o i wr => ∃ (k : Nat) (a' : Option Addr) (n' c' : Nat) (l' : List Int), i = .int .i64 k ∧ k ≤ r ∧ o = .slice a' n' c' ∧ l'.length + k ≤ r ∧ Hid (OwnInts wr w.heap.size (.slice a' n' c') l') ∧ Hid (Drew b (n + 2 + 2 * (r - k)) w wr)) (fun _ i _ => (intOf i).toNat)
  case atStart => exact ⟨r, _, _, _, [], rfl, Nat.le_refl _, rfl, by simp, HO0, Lib.hid (HD.out.mono (by omega))⟩
  case round =>
    obtain ⟨k, a', n', c', l', rfl, hk, rfl, hl', HO, HDr⟩ := hrel
    by_cases hlt : 0 < k
    · obtain ⟨k', rfl⟩ : ∃ k', k = k' + 1 := ⟨k - 1, by omega⟩
      have hlt2 : (0 : Int) < ((k' + 1 : Nat) : Int) := by omega
      go_wp2_with fail
      refine (pick_c b _ 8 _ HDr.out.1 (by omega) (by omega)).mono ?_
      rintro e w2 ⟨t, rfl, -, hd2⟩
      have HO2 := Lib.hid (own_drew HO.out hd2 hbl)
      have HD2 := Lib.hid (HDr.out.trans hd2)
      clear hd2 HO HDr
      go_wp2_with fail
      refine (l00Put_c _ l' (t : Int) _ (OwnInts.at HO2.out) (by omega)).mono ?_
      rintro e w3 ⟨l3, hl3, a3, n3, c3, rfl, ho3, hb3⟩
      have hs3 := HD2.out.2.size
      have HO3 : Hid (OwnInts w3 w.heap.size (.slice a3 n3 c3) l3) := Lib.hid (own_mono ho3 hs3)
      have HD3 := Lib.hid (HD2.out.then_below hb3)
      clear ho3 hb3 HO2 HD2
      go_wp2
      exact ⟨⟨k', a3, n3, c3, l3, by go_num, by omega, rfl, by omega, HO3, Lib.hid (HD3.out.mono (by omega))⟩, by simp [intOf]⟩
    · obtain rfl : k = 0 := by omega
      go_wp2
      go_ret
      exact ⟨a', n', c', l', rfl, by omega, HO.out, HDr.out.mono (by omega)⟩
end Go.Proofs.Ytoaegfoapkmdnaa
