import Derived.Test.YtclffohjpbmnbaaGreatDoorMg42
import Derived.Test.YtclffohjpbmnbaaGreatDoorMg31
import Derived.Test.YtclffohjpbmnbaaGreatDoorMg43
/- DrawA: attempts that are drawn: their patterns. -/
namespace Go.Proofs.YtclffohjpbmnbaaGreatDoor
open Go.ChangeShapes Go.WideShapes Go.ChangeAt Go.RowKit

def patTexts : List ByteArray := [{ data := #[51] }, { data := #[53, 51, 49] }, { data := #[51, 49, 53] }, { data := #[52, 52, 49] }, { data := #[53, 49] }, { data := #[53, 49, 53, 49] }, { data := #[51, 51] }]
theorem patTexts_digs : ∀ x ∈ patTexts, ∀ y ∈ digsL x, 0 ≤ y ∧ y ≤ 15 := by
  intro x hx
  unfold patTexts at hx
  simp only [List.mem_cons, List.not_mem_nil, or_false] at hx
  rcases hx with rfl | rfl | rfl | rfl | rfl | rfl | rfl
  all_goals
    intro y hy
    simp [digsL, chars, hexN] at hy
    omega
set_option maxRecDepth 100000 in
set_option maxHeartbeats 2000000 in
theorem l24PatternT_c (b n : Nat) (w : World) (h : SrcAt w b n) (hn : n ≤ 500000) : Calls Tryz.prog 142 #[.pointer (some ⟨b, 0, none⟩)] w (DrawsL b (n + 500) (fun l => l.length ≤ 13 ∧ ∀ y ∈ l, 0 ≤ y ∧ y ≤ 15) w) := by
  have HS := Lib.hid h
  have hbl := h.lt
  clear h
  go_enter Tryz.func142, Tryz.ntmps142
  go_wp2_with fail
  refine (one_c b n 8 w HS.out (by omega) (by omega)).mono ?_
  rintro e w1 ⟨d, rfl, hd⟩
  have HD := Lib.hid hd
  have hs1 := hd.2.size
  clear hd HS
  cases d
  · go_wp2_with fail
    have hl4 := strs_lit (w := w1) patTexts 7 rfl _ rfl (by decide)
    have hbA : Below w1.heap.size w1 (w1.alloc (.cells (patTexts.map Value.string).toArray 9)) := by go_grown
    have HDA := Lib.hid (HD.out.then_below hbA)
    refine (text_c b _ _ patTexts _ HDA.out.1 (by omega) hl4 (by decide) (by decide) (fun b' o m c e => by injection e with e1; injection e1 with e1; injection e1 with e1; omega)).mono ?_
    rintro e w2 ⟨r4, hr4, rfl, hd⟩
    have hns : (nth patTexts r4).size ≤ 4 := (by decide : ∀ x ∈ patTexts, x.size ≤ 4) _ (mem_nth hr4)
    have hnd : ∀ y ∈ digsL (nth patTexts r4), 0 ≤ y ∧ y ≤ 15 := patTexts_digs _ (mem_nth hr4)
    have Hnd := Lib.hid hnd
    have HD2 := Lib.hid (HDA.out.trans hd)
    have hs2 := hd.2.size
    have hs3 := hbA.size
    clear hd HD HDA hl4 hbA hr4 hnd
    generalize nth patTexts r4 = nm at *
    go_wp2_with fail
    refine (l02Read_c nm w2 (by omega)).mono ?_
    rintro e w3 ⟨a, m, c, rfl, ho, hb3⟩
    have HL : Hid ((digsL nm).length ≤ 13) := Lib.hid (by rw [digs_len]; omega)
    have HO := Lib.hid (own_mono ho (show w.heap.size ≤ w2.heap.size by omega))
    have HD3 := Lib.hid ((HD2.out.then_below hb3).mono (show _ ≤ n + 500 by omega))
    clear ho hb3 HD2
    go_wp2
    go_ret
    exact ⟨a, m, c, _, rfl, ⟨HL.out, Hnd.out⟩, HO.out, HD3.out⟩
  · go_wp2_with fail
    refine (l02DrawT_c b _ 5 w1 HD.out.1 (by omega) (by omega)).mono ?_
    rintro e w2 ⟨a, m, c, l, rfl, ⟨h1, h12, -, h11⟩, ho, hd⟩
    have HL : Hid (l.length ≤ 13 ∧ ∀ y ∈ l, 0 ≤ y ∧ y ≤ 15) := Lib.hid ⟨by omega, fun y hy => by have := h11 y hy; omega⟩
    clear h11
    have HO := Lib.hid (own_mono ho hs1)
    have HD3 := Lib.hid ((HD.out.trans hd).mono (show _ ≤ n + 500 by omega))
    clear ho hd HD
    go_wp2
    go_ret
    exact ⟨a, m, c, l, rfl, HL.out, HO.out, HD3.out⟩
theorem l24Pattern_c (b n : Nat) (w : World) (h : SrcAt w b n) (hn : n ≤ 500000) : Calls Tryz.prog 142 #[.pointer (some ⟨b, 0, none⟩)] w (DrawsL b (n + 500) (fun l => l.length ≤ 13) w) :=
  (l24PatternT_c b n w h hn).mono (fun _ _ ⟨a, m, c, l, h1, ⟨h2, _⟩, h3, h4⟩ => ⟨a, m, c, l, h1, h2, h3, h4⟩)
/-- Attempts, drawn. -/
def DrawsA (K b n : Nat) (w : World) (e : Ending) (w' : World) : Prop := ∃ (a : Option Addr) (m c : Nat) (l : List Att), e = .returned (.slice a m c) ∧ l.length ≤ K ∧ OwnAtts w' w.heap.size (.slice a m c) l ∧ Drew b n w w'
theorem attsMono {w : World} {base base' : Nat} {v : Value} {l : List Att} (h : OwnAtts w base' v l) (hb : base ≤ base') : OwnAtts w base v l := by
  obtain ⟨ps, h1, h2, h3, h4⟩ := h
  exact ⟨ps, h1, own_mono h2 hb, fun p hp => ⟨(h3 p hp).1, own_mono (h3 p hp).2.1 hb, (h3 p hp).2.2.1, (h3 p hp).2.2.2⟩, h4⟩
/-- Attempts whose text is short. -/
def TxA1 (x : Att) : Prop := (x.pattern.length ≤ 13 ∧ ∀ y ∈ x.pattern, 0 ≤ y ∧ y ≤ 15) ∧ (0 ≤ x.catches ∧ x.catches ≤ 100000)
def DrawsAS (K b n : Nat) (w : World) (e : Ending) (w' : World) : Prop := ∃ (a : Option Addr) (m c : Nat) (l : List Att), e = .returned (.slice a m c) ∧ l.length ≤ K ∧ OwnAtts w' w.heap.size (.slice a m c) l ∧ Drew b n w w' ∧ ∀ x ∈ l, TxA1 x
theorem DrawsAS.weak {K b n : Nat} {w w' : World} {e : Ending} (h : DrawsAS K b n w e w') : DrawsA K b n w e w' := by
  obtain ⟨a, m, c, l, h1, h2, h3, h4, -⟩ := h
  exact ⟨a, m, c, l, h1, h2, h3, h4⟩
theorem txA_snoc {l : List Att} {x : Att} (h : ∀ y ∈ l, TxA1 y) (hx : TxA1 x) : ∀ y ∈ l ++ [x], TxA1 y := by
  intro y hy
  rcases List.mem_append.1 hy with hy | hy
  · exact h y hy
  · rw [List.mem_singleton.1 hy]; exact hx
set_option maxRecDepth 100000 in
set_option maxHeartbeats 4000000 in
theorem l24DrawS_c (b n : Nat) (w : World) (h : SrcAt w b n) (hn : n ≤ 100000) : Calls Tryz.prog 93 #[.pointer (some ⟨b, 0, none⟩)] w (DrawsAS 9 b (n + 6000) w) := by
  have HS := Lib.hid h
  have hbl := h.lt
  clear h
  go_enter Tryz.func93, Tryz.ntmps93
  go_wp2_with fail
  have HO0 := Lib.hid (own_attsD w)
  have HD0 := Lib.hid (Drew.of_below HS.out (show Below w.heap.size w (w.alloc (.cells #[] 103)) by go_grown))
  refine (pick_c b _ 10 _ HD0.out.1 (by omega) (by omega)).mono ?_
  rintro e w1 ⟨r, rfl, hr, hd⟩
  have hr1 : r ≤ 9 := by omega
  have HO1 := Lib.hid (nest_drew HO0.out hd hbl)
  have HD1 := Lib.hid (HD0.out.trans hd)
  clear hd hr HO0 HD0
  go_wp2
  go_loopw [3, 4] (fun o i wr => ∃ (k : Nat) (a' : Option Addr) (n' c' : Nat) (l' : List Att), i = .int .i64 k ∧ o = .slice a' n' c' ∧ l'.length + k ≤ 9 ∧ Hid (OwnAtts wr w.heap.size (.slice a' n' c') l') ∧ Hid (Drew b (n + 2 + 600 * (9 - k)) w wr) ∧ Hid (∀ x ∈ l', TxA1 x)) (fun _ i _ => (intOf i).toNat)
  case atStart => exact ⟨r, _, _, _, [], rfl, rfl, by simp; omega, HO1, Lib.hid (HD1.out.mono (by omega)), Lib.hid (fun x hx => absurd hx List.not_mem_nil)⟩
  case round =>
    clear HO1 HD1
    obtain ⟨k, a', n', c', l', rfl, rfl, hk, HO, HD, HTx⟩ := hrel
    by_cases hlt : 0 < k
    · obtain ⟨k', rfl⟩ : ∃ k', k = k' + 1 := ⟨k - 1, by omega⟩
      go_wp2_with fail
      refine (l24PatternT_c b _ wr HD.out.1 (by omega)).mono ?_
      rintro e w3 ⟨pa, pn, pc, x, rfl, hx15, ho, hd⟩
      have Hx15 := Lib.hid hx15
      clear hx15
      have hsw := HD.out.2.size
      have hbw : b < wr.heap.size := by omega
      have HP := Lib.hid ho
      have HD3 := Lib.hid hd
      clear ho hd
      go_wp2_with fail
      refine (pick_c b _ 20 _ HD3.out.1 (by omega) (by omega)).mono ?_
      rintro e w4 ⟨t, rfl, ht, hd⟩
      have ht9 : t ≤ 19 := by omega
      replace HP := Lib.hid (own_drew HP.out hd hbw)
      replace HD3 := Lib.hid (HD3.out.trans hd)
      clear hd ht
      go_wp2_with fail
      refine (pick_c b _ 4 _ HD3.out.1 (by omega) (by omega)).mono ?_
      rintro e w5 ⟨u, rfl, hu, hd⟩
      have hu3 : u ≤ 3 := by omega
      replace HP := Lib.hid (own_drew HP.out hd hbw)
      replace HD3 := Lib.hid (HD3.out.trans hd)
      clear hd hu
      have hm0 : 0 ≤ (t : Int) * (1 + (u : Int)) := Int.mul_nonneg (by omega) (by omega)
      have hm1 : (t : Int) * (1 + (u : Int)) ≤ 19 * 4 := Int.mul_le_mul (by omega) (by omega) (by omega) (by omega)
      have hwm : IntKind.i64.wrap ((t : Int) * (1 + (u : Int))) = (t : Int) * (1 + (u : Int)) := IntWalk.i64_in _ (by omega)
      go_wp2_with fail
      refine (one_c b _ 2 _ HD3.out.1 (by omega) (by omega)).mono ?_
      rintro e w6 ⟨dr, rfl, hd⟩
      replace HP := Lib.hid (own_drew HP.out hd hbw)
      replace HD3 := Lib.hid (HD3.out.trans hd)
      clear hd
      generalize (t : Int) * (1 + (u : Int)) = ct at *
      have HTx7 : Hid (∀ z ∈ l' ++ [(⟨x, ct, dr⟩ : Att)], TxA1 z) := Lib.hid (txA_snoc HTx.out ⟨Hx15.out, hm0, by show ct ≤ 100000; omega⟩)
      clear hwm hm0 hm1
      go_wp2_with (at_builtin; refine wpList_snoc_atts rfl _ _ rfl w.heap.size b _ _ l' _ _ _ x ct dr rfl HO.out HD3.out hbl hsw HP.out _ rfl rfl (by omega) ?_)
      intro a7 n7 c7 w7 ho7 hb7 hn7; clear hn7
      have HD7 := Lib.hid ((HD.out.trans HD3.out).thenK hb7 hbl)
      have HO7 := Lib.hid ho7
      clear ho7 hb7 HO HD HP HD3
      go_wp2
      exact ⟨⟨k', a7, n7, c7, _, by go_num, rfl, by simp; omega, HO7, Lib.hid (HD7.out.mono (by omega)), HTx7⟩, by simp [intOf]⟩
    · obtain rfl : k = 0 := by omega
      have HL : Hid (l'.length ≤ 9) := Lib.hid (by omega)
      clear hk
      go_wp2
      go_ret
      exact ⟨a', n', c', l', rfl, HL.out, HO.out, HD.out.mono (by omega), HTx.out⟩
theorem l24Draw_c (b n : Nat) (w : World) (h : SrcAt w b n) (hn : n ≤ 100000) : Calls Tryz.prog 93 #[.pointer (some ⟨b, 0, none⟩)] w (DrawsA 9 b (n + 6000) w) := (l24DrawS_c b n w h hn).mono (fun _ _ h => h.weak)
end Go.Proofs.YtclffohjpbmnbaaGreatDoor

/- DrawA2: lists of attempts that are drawn, seldom not valid; what the laws on attempts draw. -/
namespace Go.Proofs.YtclffohjpbmnbaaGreatDoor
open Go.ChangeShapes Go.WideShapes Go.ChangeAt Go.RowKit

theorem own_oneA (w : World) (x : Int) : OwnInts (w.alloc (.cells #[.int .i64 x] 2)) w.heap.size (.slice (some ⟨w.heap.size, 0, none⟩) 1 1) [x] :=
  World.ownsRow_lit w #[.int .i64 x] 1 (Nat.le_refl _) (by decide) rfl
set_option maxRecDepth 100000 in
set_option maxHeartbeats 4000000 in
theorem l24Bent_c (b n : Nat) (w : World) (h : SrcAt w b n) (hn : n ≤ 10000) : Calls Tryz.prog 80 #[.pointer (some ⟨b, 0, none⟩)] w (DrawsA 150 b (n + 8000) w) := by
  have HS := Lib.hid h
  have hbl := h.lt
  clear h
  go_enter Tryz.func80, Tryz.ntmps80
  go_wp2_with fail
  refine (l24Draw_c b n w HS.out (by omega)).mono ?_
  rintro e w1 ⟨a, m, c, l, rfl, hl, ho, hd⟩
  have HO := Lib.hid ho
  have HD := Lib.hid hd
  have Hl : Hid (l.length ≤ 9) := Lib.hid hl
  clear ho hd HS hl
  go_wp2_with fail
  refine (pick_c b _ 24 _ HD.out.1 (by omega) (by omega)).mono ?_
  rintro e w2 ⟨v, rfl, -, hd⟩
  replace HO : Hid (OwnAtts w2 w.heap.size (.slice a m c) l) := Lib.hid (nest_drew HO.out hd hbl)
  replace HD := Lib.hid (HD.out.trans hd)
  clear hd
  have hs2 := HD.out.2.size
  have hb2 : b < w2.heap.size := by omega
  by_cases h0 : v = 0
  · subst h0
    go_wp2_with fail
    refine (l02Bent_c b _ w2 HD.out.1 (by omega)).mono ?_
    rintro e w3 ⟨pa, pn, pc, x, rfl, -, ho, hd⟩
    go_wp2_with (at_builtin; refine wpList_snoc_atts rfl _ _ rfl w.heap.size b _ _ l _ _ _ x 0 false rfl HO.out hd hbl hs2 ho _ rfl rfl (by have := Hl.out; omega) ?_)
    intro a7 n7 c7 w7 ho7 hb7 hn7; clear hn7
    have HD7 := Lib.hid (((HD.out.trans hd).thenK hb7 hbl).mono (show _ ≤ n + 8000 by omega))
    have HO7 := Lib.hid ho7
    clear ho7 hb7
    go_wp2
    go_ret
    exact ⟨a7, n7, c7, _, rfl, (by have := Hl.out; simp; omega), HO7.out, HD7.out⟩
  have hz0 : ((v : Int) == 0) = false := beq_eq_false_iff_ne.2 (by omega)
  by_cases h1 : v = 1
  · subst h1
    go_wp2_with fail
    have hbA : Below w2.heap.size w2 (w2.alloc (.cells #[.int .i64 3] 2)) := by go_grown
    have HDA := Lib.hid (Drew.of_below HD.out.1 hbA)
    have HP := Lib.hid (own_oneA w2 3)
    have hsA : (w2.alloc (.cells #[.int .i64 3] 2)).heap.size = w2.heap.size + 1 := by simp
    have hl4 := ints_lit (w := w2.alloc (.cells #[.int .i64 3] 2)) [-1, 100000, 100001] 3 rfl (w2.heap.size + 1) hsA.symm (by decide)
    have hbB : Below (w2.alloc (.cells #[.int .i64 3] 2)).heap.size (w2.alloc (.cells #[.int .i64 3] 2)) ((w2.alloc (.cells #[.int .i64 3] 2)).alloc (.cells (([-1, 100000, 100001] : List Int).map (Value.int .i64)).toArray 2)) := by go_grown
    have HDB := Lib.hid (HDA.out.then_below hbB)
    have HPB := Lib.hid (own_below HP.out hbB)
    refine (among_c b _ _ [-1, 100000, 100001] _ HDB.out.1 (by omega) hl4 (by decide) (by decide) (fun b' o m c e => by injection e with e1; injection e1 with e1; injection e1 with e1; omega)).mono ?_
    rintro e w3 ⟨r4, hr4, rfl, hd⟩
    have HPC := Lib.hid (own_drew HPB.out hd hb2)
    have HDC := Lib.hid (HDB.out.trans hd)
    clear hd hl4 hbA hbB HDA HDB HP HPB hr4 hsA
    generalize nth ([-1, 100000, 100001] : List Int) r4 = v0 at *
    go_wp2_with (at_builtin; refine wpList_snoc_atts rfl _ _ rfl w.heap.size b _ _ l _ _ _ [3] v0 false rfl HO.out HDC.out hbl hs2 HPC.out _ rfl rfl (by have := Hl.out; omega) ?_)
    intro a7 n7 c7 w7 ho7 hb7 hn7; clear hn7
    have HD7 := Lib.hid (((HD.out.trans HDC.out).thenK hb7 hbl).mono (show _ ≤ n + 8000 by omega))
    have HO7 := Lib.hid ho7
    clear ho7 hb7
    go_wp2
    go_ret
    exact ⟨a7, n7, c7, _, rfl, (by have := Hl.out; simp; omega), HO7.out, HD7.out⟩
  have hz1 : ((v : Int) == 1) = false := beq_eq_false_iff_ne.2 (by omega)
  by_cases h2 : v = 2
  · subst h2
    go_wp2
    go_loopw [3] (fun o wr => ∃ (a' : Option Addr) (n' c' : Nat) (l' : List Att), o = .slice a' n' c' ∧ n' ≤ 101 ∧ Hid (OwnAtts wr w.heap.size (.slice a' n' c') l') ∧ Hid (Drew b (n + 6100 + 2 * n') w wr)) (fun o _ => 200 - lenOf o)
    case atStart => exact ⟨a, m, c, l, rfl, by have := ownLen HO.out; have := Hl.out; omega, HO, Lib.hid (HD.out.mono (by omega))⟩
    case round =>
      clear HO HD
      obtain ⟨a', n', c', l', rfl, hn', HO, HD⟩ := hrel
      have Hln := Lib.hid (ownLen HO.out)
      go_wp2_with fail
      refine (pick_c b _ 2 _ HD.out.1 (by omega) (by omega)).mono ?_
      rintro e w3 ⟨u, rfl, hu, hd⟩
      have hu1 : u ≤ 1 := by omega
      replace HO : Hid (OwnAtts w3 w.heap.size (.slice a' n' c') l') := Lib.hid (nest_drew HO.out hd hbl)
      replace HD := Lib.hid (HD.out.trans hd)
      have hs3 := HD.out.2.size
      clear hd hu
      by_cases hlt : n' < 100 + u
      · have hlt2 : (n' : Int) < 100 + (u : Int) := by omega
        go_wp2_with (at_builtin; refine wpList_snoc_atts (W1 := w3.alloc (.cells #[.int .i64 3] 2)) rfl _ _ rfl w.heap.size b _ _ l' _ _ _ [3] 7 false rfl HO.out (Drew.of_below HD.out.1 (show Below w3.heap.size w3 (w3.alloc (.cells #[.int .i64 3] 2)) by go_grown)) hbl hs3 (own_oneA w3 3) _ rfl (by simp) (by have := Hln.out; omega) ?_)
        intro a7 n7 c7 w7 ho7 hb7 hn7
        have HD7 := Lib.hid ((HD.out.then_below (show Below w3.heap.size w3 (w3.alloc (.cells #[.int .i64 3] 2)) by go_grown)).thenK hb7 hbl)
        obtain rfl : n7 = n' + 1 := by rw [hn7, Hln.out]
        have HO7 := Lib.hid ho7
        clear ho7 hb7 hn7 HO HD
        go_wp2
        exact ⟨⟨a7, _, c7, _, rfl, by omega, HO7, Lib.hid (HD7.out.mono (by omega))⟩, by simp [lenOf]; omega⟩
      · have hlt2 : ¬ (n' : Int) < 100 + (u : Int) := by omega
        go_wp2
        go_ret
        exact ⟨a', n', c', l', rfl, (by have := Hln.out; omega), HO.out, HD.out.mono (by omega)⟩
  have hz2 : ((v : Int) == 2) = false := beq_eq_false_iff_ne.2 (by omega)
  clear h0 h1 h2
  go_wp2
  go_ret
  exact ⟨a, m, c, l, rfl, (by have := Hl.out; omega), HO.out, HD.out.mono (by omega)⟩
end Go.Proofs.YtclffohjpbmnbaaGreatDoor

/- NestR: a row of attempts whose patterns lie elsewhere. -/
namespace Go.Proofs.YtclffohjpbmnbaaGreatDoor
open Go.ChangeShapes Go.WideShapes Go.ChangeAt Go.RowKit

theorem nestAtRow {α : Type} [Inhabited α] {S : Shape α} {T : TypeId} {w : World} {base : Nat} {v : Value} {ps : List (Value × α)} (ho : w.ownsRow base T S.k v ps.length (ps.flatMap fun p => S.enc p.1 p.2))
    (hp : ∀ p ∈ ps, (∃ pa pn pc, p.1 = .slice pa pn pc) ∧ IntsAt w p.1 (S.pat p.2) ∧ S.ok p.2) : NestAt S w v (ps.map (·.2)) := by
  have hlt := ho.lt
  have hlen : (ps.map (·.2)).length = ps.length := by simp
  rcases ho.2 with ⟨rfl, h0⟩ | ⟨g, cap, cur, rfl, hb, hg, hnc, hcm, hcs, htake⟩
  · exact ⟨none, 0, 0, rfl, by rw [hlen]; exact h0.symm, Nat.le_refl _, by decide, fun i hi => by omega⟩
  · refine ⟨_, _, _, rfl, hlen.symm, hnc, hcm, fun i hi => ?_⟩
    rw [hlen] at hi
    have hm : nth ps i ∈ ps := mem_nth hi
    obtain ⟨⟨pa, pn, pc, he⟩, hoi, hok⟩ := hp _ hm
    refine ⟨g, 0, pa, pn, pc, rfl, (hlt g rfl).2, ?_, ?_, fun j hj => ?_⟩
    · rw [nth_map _ _ _ hi]; exact hok
    · rw [nth_map _ _ _ hi, ← he]; exact hoi
    · have h1 : i * S.k + j < ps.length * S.k := by
        have : (i + 1) * S.k ≤ ps.length * S.k := Nat.mul_le_mul_right _ hi
        rw [Nat.succ_mul] at this; omega
      have h2 := ho.cellAt (i * S.k + j) h1
      rw [Nat.zero_add, h2, nth_map _ _ _ hi, ← he]
      exact flat_at (fun p : Value × α => S.enc p.1 p.2) S.k (fun p => S.len p.1 p.2) ps i hi j hj
/-- The cells of attempts whose patterns are known by value. -/
def attRow (ps : List (Value × Att)) : List Value := ps.flatMap fun p => attS.enc p.1 p.2
theorem attRow_snoc (ps : List (Value × Att)) (p : Value × Att) : attRow (ps ++ [p]) = attRow ps ++ [p.1, .int .i64 p.2.catches, .bool p.2.dropped] := by
  unfold attRow
  rw [List.flatMap_append]; simp [attS]
/-- 'append(out, x)' at an attempt whose pattern lies elsewhere. -/
theorem wpList_row_atts {W1 : World} {ops : Array Oper} {rest : List Oper} {o : Oper} {a : Act} {Q : Exit → Act → World → Prop} (hgd : o.guard = none) (s y : Operand)
    (ho : o.op = .call { callee := .builtin .append, args := #[s, y], argTypes := #[43, 43] })
    (P n : Nat) (v : Value) (ps : List (Value × Att)) (hn : n = ps.length) (u : Value) (hu : ∃ pa pn pc, u = .slice pa pn pc) (ct : Int) (dr : Bool) (x : Att) (hx : x.catches = ct ∧ x.dropped = dr) (hs : a.eval s = v) (hown : W1.ownsRow P 103 3 v n (attRow ps)) (hP : P ≤ W1.heap.size)
    (g : Nat) (hy : a.eval y = .slice (some ⟨g, 0, none⟩) 1 1) (hg0 : g = W1.heap.size) (hsz : ps.length ≤ 1000000)
    (h : ∀ a' c' w', w'.ownsRow P 103 3 (.slice a' (n + 1) c') (n + 1) (attRow (ps ++ [(u, x)])) → Below P W1 w' → wpList Tryz.prog ops Q rest (a.put o.dst (.slice a' (n + 1) c')) w') : wpList Tryz.prog ops Q (o :: rest) a (W1.alloc (.cells #[u, .int .i64 ct, .bool dr] 103)) := by
  subst hg0 hn
  obtain ⟨i0, h1, h2, h3, h4⟩ := info_parts attInfo
  obtain ⟨pa, pn, pc, rfl⟩ := hu
  have hown2 := hown.alloc (.cells #[.slice pa pn pc, .int .i64 ct, .bool dr] 103)
  refine wpList_append_any _ hgd s y 43 ho P 103 i0 _ 3 40 Tryz.underlying43 h1 h2 h3 h4 rfl (by decide) v ps.length _ hs hown2 _ _ 1 1 [.slice pa pn pc, .int .i64 ct, .bool dr] hy (attNewD _ _ _ _ _) (by intro z hz; simp at hz; rcases hz with rfl | rfl | rfl <;> rfl) (by unfold maxLen; omega) (by omega) (by simp; omega) ?_
  intro v' w' hown' hg hb
  obtain ⟨a', c', rfl⟩ := slice_of_own hown'
  have e : attRow (ps ++ [(.slice pa pn pc, x)]) = attRow ps ++ [.slice pa pn pc, .int .i64 ct, .bool dr] := by rw [attRow_snoc]; dsimp only; rw [hx.1, hx.2]
  exact h a' c' w' (by rw [e]; exact hown') (((Below.refl _ _).alloc (by omega) _).grown hg (by simp; omega) (fun g hg' => (hown2.lt g hg').1))
end Go.Proofs.YtclffohjpbmnbaaGreatDoor
