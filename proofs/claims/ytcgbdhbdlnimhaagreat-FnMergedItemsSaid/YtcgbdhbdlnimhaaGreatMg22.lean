import Derived.Test.YtcgbdhbdlnimhaaGreatMg20
import Derived.Test.YtcgbdhbdlnimhaaGreatMg8
/- Lit: a list of two numbers written out, its world hidden. -/
namespace Go.Proofs.YtcgbdhbdlnimhaaGreat
open Go.ChangeShapes Go.WideShapes Go.ChangeAt Go.RowKit
theorem ints_lit2 (w : World) (p q : Int) (t : TypeId) : IntsAt (w.alloc (.cells #[.int .i64 p, .int .i64 q] t)) (.slice (some ⟨w.heap.size, 0, none⟩) 2 2) [p, q] := by
  refine ⟨some ⟨w.heap.size, 0, none⟩, _, _, rfl, rfl, Nat.le_refl _, by decide, fun i hi => ⟨w.heap.size, 0, rfl, by simp, ?_⟩⟩
  rw [World.cell?_alloc_at _ _ _ _ rfl]
  have h2 : i = 0 ∨ i = 1 := by simp at hi; omega
  rcases h2 with rfl | rfl <;> rfl
theorem wpList_lit2 {w : World} {ops : Array Oper} {rest : List Oper} {o : Oper} {a : Act} {Q : Exit → Act → World → Prop} (hgd : o.guard = none) (i j : Nat)
    (ho : o.op = .buildSlice 25 2 #[(0, .tmp i), (1, .tmp j)]) (p q : Int) (hx : a.tmps[i]?.getD undef = .int .i64 p) (hy : a.tmps[j]?.getD undef = .int .i64 q)
    (h : ∀ w', Below w.heap.size w w' → w.heap.size < w'.heap.size → IntsAt w' (.slice (some ⟨w.heap.size, 0, none⟩) 2 2) [p, q] → wpList Tryz.prog ops Q rest (a.put o.dst (.slice (some ⟨w.heap.size, 0, none⟩) 2 2)) w') : wpList Tryz.prog ops Q (o :: rest) a w := by
  refine wpList_plain hgd fun K hK => ?_
  obtain ⟨dst, op, ty, pos, after, gd⟩ := o
  dsimp only at ho hgd h hK ⊢
  subst ho
  have h0 := hK _ _ (h _ (by go_grown : Below w.heap.size w (w.alloc (.cells #[.int .i64 p, .int .i64 q] 2))) (by simp) (ints_lit2 w p q _))
  clear hK h
  go_simp
  exact h0
end Go.Proofs.YtcgbdhbdlnimhaaGreat

/- DrawP: patterns that are drawn. -/
namespace Go.Proofs.YtcgbdhbdlnimhaaGreat
open Go.ChangeShapes Go.WideShapes Go.ChangeAt Go.RowKit

theorem in_set {l : List Int} {i : Nat} {lo hi x : Int} (h : ∀ y ∈ l, lo ≤ y ∧ y ≤ hi) (hx : lo ≤ x ∧ x ≤ hi) : ∀ y ∈ l.set i x, lo ≤ y ∧ y ≤ hi := by
  intro y hy
  rcases List.mem_or_eq_of_mem_set hy with h1 | rfl
  · exact h y h1
  · exact hx
theorem in_snoc {l : List Int} {lo hi x : Int} (h : ∀ y ∈ l, lo ≤ y ∧ y ≤ hi) (hx : lo ≤ x ∧ x ≤ hi) : ∀ y ∈ l ++ [x], lo ≤ y ∧ y ≤ hi := by
  intro y hy
  rcases List.mem_append.1 hy with h1 | h1
  · exact h y h1
  · rw [List.mem_singleton.1 h1]; exact hx
theorem nth_in {l : List Int} {lo hi : Int} (h : ∀ y ∈ l, lo ≤ y ∧ y ≤ hi) {i : Nat} (hi' : i < l.length) : lo ≤ nth l i ∧ nth l i ≤ hi := h _ (mem_nth hi')
set_option maxRecDepth 100000 in
set_option maxHeartbeats 4000000 in
theorem l02DrawT_c (b n : Nat) (most : Int) (w : World) (h : SrcAt w b n) (hn : n ≤ 1000000) (hm : most ≤ 12) : Calls Tryz.prog 85 #[.pointer (some ⟨b, 0, none⟩), .int .i64 most] w (DrawsL b (n + 400) (fun l => 1 ≤ l.length ∧ l.length ≤ 12 ∧ ((l.length : Int) ≤ most ∨ l.length = 1) ∧ ∀ x ∈ l, 0 ≤ x ∧ x ≤ 11) w) := by
  have HS := Lib.hid h
  have hbl := h.lt
  clear h
  go_enter Tryz.func85, Tryz.ntmps85
  go_wp2_with fail
  refine (pick_c b n most w HS.out (by omega) (by omega)).mono ?_
  rintro e w1 ⟨r, rfl, hr, hd1⟩
  obtain ⟨N, hN⟩ : ∃ N : Nat, N = r + 1 := ⟨r + 1, rfl⟩
  have hN2 : (1 : Int) + (r : Int) = (N : Int) := by omega
  have hN1 : 1 ≤ N := by omega
  have hN12 : N ≤ 12 := by omega
  have HNm : Hid ((N : Int) ≤ most ∨ N = 1) := Lib.hid (by omega)
  have HD1 := Lib.hid hd1
  have hs1 := hd1.2.size
  have hs1' : b < w1.heap.size := by omega
  clear hd1 hr hN
  go_wp2
  generalize (1 : Int) + (r : Int) = NN at *
  subst hN2
  go_loopw [6, 7] (fun o i wr => ∃ (k : Nat) (a' : Option Addr) (c' : Nat) (l' : List Int), i = .int .i64 k ∧ k ≤ N ∧ o = .slice a' k c' ∧ Hid (OwnInts wr w1.heap.size (.slice a' k c') l') ∧ Hid (∀ x ∈ l', 0 ≤ x ∧ x ≤ 20) ∧ Hid (Drew b (n + 2 + 2 * k) w1 wr)) (fun _ i _ => N - (intOf i).toNat)
  case atStart => exact ⟨0, _, _, [], rfl, Nat.zero_le _, rfl, Lib.hid (own_empty w1), Lib.hid (fun x hx => by cases hx), Lib.hid (Drew.of_below HD1.out.1 (by go_grown))⟩
  case round =>
    obtain ⟨k, a', c', l', rfl, hk, rfl, HO, HI, HDr⟩ := hrel
    by_cases hlt : k < N
    · have Hln : Hid (k = l'.length) := Lib.hid (ownHead HO.out).1
      go_wp2_with fail
      refine (pick_c b _ ((k : Int) + 1) _ HDr.out.1 (by omega) (by omega)).mono ?_
      rintro e w6 ⟨t, rfl, ht, hd⟩
      have htk : t ≤ k := by omega
      replace HO := Lib.hid (own_drew HO.out hd hs1')
      replace HDr := Lib.hid (HDr.out.trans hd)
      clear hd ht
      have hs6 := HDr.out.2.size
      go_wp2_with (at_builtin; refine wpList_app_ints rfl _ _ rfl w1.heap.size _ _ rfl (HO.out.alloc _) _ _ _ [(k : Int)] rfl rfl (ints_new _ _ _) (by have := Hln.out; simp only [List.length_cons, List.length_nil]; omega) (by simp; omega) ?_)
      intro a7 n7 c7 w7 ho7 hg7 _ hn7; clear hn7
      have hb7 : Below w1.heap.size w6 w7 := ((Below.refl _ _).alloc (by omega) _).grown hg7 (by simp; omega) (fun g hg => (World.ownsRow.lt HO.out g hg).1)
      have HD7 := Lib.hid (HDr.out.thenK hb7 hs1')
      have HI7 : Hid (∀ x ∈ l' ++ [(k : Int)], 0 ≤ x ∧ x ≤ 20) := Lib.hid (in_snoc HI.out (by omega))
      obtain ⟨hn7, hh⟩ := ownHead ho7
      rw [List.length_append, ← Hln.out] at hn7
      simp only [List.length_cons, List.length_nil, Nat.zero_add] at hn7
      subst hn7
      obtain ⟨g, rfl, hg⟩ := hh (Nat.succ_pos k)
      have Hl7 : Hid ((l' ++ [(k : Int)]).length = k + 1) := Lib.hid (by simp [← Hln.out])
      have HO7 := Lib.hid ho7
      generalize l' ++ [(k : Int)] = l7 at *
      obtain ⟨e1, f1⟩ := ownCell HO7.out t (by rw [Hl7.out]; omega)
      obtain ⟨e2, f2⟩ := ownCell HO7.out k (by rw [Hl7.out]; omega)
      have hx := nth_in HI7.out (show t < l7.length by rw [Hl7.out]; omega)
      generalize nth l7 t = x at *
      generalize nth l7 k = y at *
      have HO9 : Hid (OwnInts ((w7.setCell ⟨g, k, none⟩ (.int .i64 x)).setCell ⟨g, t, none⟩ (.int .i64 (k : Int))) w1.heap.size (.slice (some ⟨g, 0, none⟩) (k + 1) c7) ((l7.set k x).set t (k : Int))) := Lib.hid (ownSet (ownSet HO7.out k x) t (k : Int))
      have HI9 : Hid (∀ z ∈ (l7.set k x).set t (k : Int), 0 ≤ z ∧ z ≤ 20) := Lib.hid (in_set (in_set HI7.out hx) (by omega))
      have HD9 : Hid (Drew b (n + 2 + 2 * (k + 1)) w1 ((w7.setCell ⟨g, k, none⟩ (.int .i64 x)).setCell ⟨g, t, none⟩ (.int .i64 (k : Int)))) := Lib.hid ((HD7.out.thenK (((Below.refl _ _).setCell hg _).setCell hg _) hs1').mono (by omega))
      clear ho7 hg7 HO HDr hb7 hh HO7 HD7 HI7 hx hg Hl7
      by_cases htk2 : t = k
      · subst htk2
        go_wp2
        exact ⟨⟨t + 1, _, c7, _, by go_num, hlt, rfl, HO9, HI9, HD9⟩, by simp [intOf]; omega⟩
      · have hne : ((⟨g, k, none⟩ : Addr) ≠ ⟨g, t, none⟩) := fun e => htk2 (by injection e with _ e2 _; exact e2.symm)
        have htk3 : t < k := by omega
        clear htk2 htk
        go_wp2
        exact ⟨⟨k + 1, _, c7, _, by go_num, hlt, rfl, HO9, HI9, HD9⟩, by simp [intOf]; omega⟩
    · obtain rfl : k = N := by omega
      have Hln : Hid (k = l'.length) := Lib.hid (ownHead HO.out).1
      obtain ⟨g, rfl, hg⟩ := (ownHead HO.out).2 hN1
      have HI0 := HI
      have hgs : g < wr.heap.size := (World.ownsRow.lt HO.out g rfl).2
      have HC0 : Hid (∀ i, i < k → wr.cell? ⟨g, i, none⟩ = some (.int .i64 (nth l' i))) := Lib.hid (fun i hi => (ownCell HO.out i (by rw [← Hln.out]; exact hi)).1)
      have HDw := HDr
      have hsw := HDr.out.2.size
      clear HO HI HDr hlt
      generalize hw2 : wr = w2 at *
      clear hw2
      have hbw : b < w2.heap.size := by omega
      have hgb : g ≠ b := by omega
      go_wp2
      go_loopw [9, 10] (fun o i wr => ∃ (j : Nat) (a' : Option Addr) (d' : Nat) (m' : List Int), i = .int .i64 j ∧ j ≤ k ∧ o = .slice a' j d' ∧ Hid (OwnInts wr w2.heap.size (.slice a' j d') m') ∧ Hid (∀ x ∈ m', 0 ≤ x ∧ x ≤ 11) ∧ Hid (Drew b (n + 30 + 30 * j) w2 wr)) (fun _ i _ => k - (intOf i).toNat)
      case atStart => exact ⟨0, _, _, [], rfl, Nat.zero_le _, rfl, Lib.hid (own_empty w2), Lib.hid (fun x hx => by cases hx), Lib.hid ((Drew.of_below HDw.out.1 (by go_grown)).mono (by omega))⟩
      case round =>
        obtain ⟨j, a', d', m', rfl, hj, rfl, HO, HI, HDr⟩ := hrel
        by_cases hlt : j < k
        · have e1 : wr.cell? ⟨g, j, none⟩ = some (.int .i64 (nth l' j)) := (World.cell?_of_block (a := ⟨g, j, none⟩) (HDr.out.2.block g hgs (by omega))).trans (HC0.out j hlt)
          have hx := nth_in HI0.out (show j < l'.length by rw [← Hln.out]; exact hlt)
          generalize nth l' j = x at *
          have Hm' : Hid (j = m'.length) := Lib.hid (ownHead HO.out).1
          go_wp2_with fail
          refine (l02Mod_c (x - (j : Int)) (k : Int) _ (by omega) (by omega)).mono ?_
          rintro e w3 ⟨rfl, hb3⟩
          have ht0 := Int.emod_nonneg (x - (j : Int)) (show (k : Int) ≠ 0 by omega)
          have ht1 := Int.emod_lt_of_pos (x - (j : Int)) (show 0 < (k : Int) by omega)
          generalize (x - (j : Int)) % (k : Int) = T0 at *
          replace HO := Lib.hid (own_below HO.out hb3)
          replace HDr := Lib.hid (HDr.out.then_below hb3)
          clear hb3 e1 hx
          go_wp2
          go_loopw [11] (fun t ws => ∃ T : Int, t = .int .i64 T ∧ 0 ≤ T ∧ T ≤ 11 ∧ Hid (OwnInts ws w2.heap.size (.slice a' j d') m') ∧ Hid (Drew b (n + 30 + 30 * j + 2 * T.toNat) w2 ws)) (fun t _ => 30 - (intOf t).toNat)
          case atStart => exact ⟨T0, rfl, ht0, by omega, HO, Lib.hid (HDr.out.mono (by omega))⟩
          case round =>
            clear HO HDr ht0 ht1
            obtain ⟨T, rfl, hT0, hT1, HO, HDr⟩ := hrel
            by_cases h9 : T + (k : Int) ≤ 9
            · go_wp2_with fail
              refine (one_c b _ 2 _ HDr.out.1 (by omega) (by omega)).mono ?_
              rintro e w4 ⟨d, rfl, hd⟩
              have HO4 := Lib.hid (own_drew HO.out hd hbw)
              have HD4 := Lib.hid (HDr.out.trans hd)
              clear hd HO HDr
              cases d
              · skip
                have hs6 := HD4.out.2.size
                go_wp2_with (at_builtin; refine wpList_app_ints rfl _ _ rfl w2.heap.size _ _ rfl (HO4.out.alloc _) _ _ _ [T] rfl rfl (ints_new _ _ _) (by have := Hm'.out; simp only [List.length_cons, List.length_nil]; omega) (by simp; omega) ?_)
                intro a7 n7 c7 w7 ho7 hg7 _ hn7; clear hn7
                have hb7 : Below w2.heap.size _ w7 := ((Below.refl _ _).alloc (by omega) _).grown hg7 (by simp; omega) (fun g hg => (World.ownsRow.lt HO4.out g hg).1)
                have HD7 := Lib.hid ((HD4.out.thenK hb7 hbw).mono (show _ ≤ n + 30 + 30 * (j + 1) by omega))
                have HI7 : Hid (∀ x ∈ m' ++ [T], 0 ≤ x ∧ x ≤ 11) := Lib.hid (in_snoc HI.out (by omega))
                have hn7 := (ownHead ho7).1
                rw [List.length_append, ← Hm'.out] at hn7
                simp only [List.length_cons, List.length_nil, Nat.zero_add] at hn7
                subst hn7
                have HO7 := Lib.hid ho7
                clear ho7 hg7 HO4 HD4 hb7 hT0 hT1
                go_wp2
                exact ⟨⟨j + 1, a7, c7, _, by go_num, hlt, rfl, HO7, HI7, HD7⟩, by simp [intOf]; omega⟩
              · go_wp2
                exact ⟨⟨T + (k : Int), rfl, by omega, by omega, HO4, Lib.hid (HD4.out.mono (by omega))⟩, by simp [intOf]; omega⟩
            · have HO4 := HO
              have HD4 := HDr
              clear HO HDr
              have hs6 := HD4.out.2.size
              go_wp2_with (at_builtin; refine wpList_app_ints rfl _ _ rfl w2.heap.size _ _ rfl (HO4.out.alloc _) _ _ _ [T] rfl rfl (ints_new _ _ _) (by have := Hm'.out; simp only [List.length_cons, List.length_nil]; omega) (by simp; omega) ?_)
              intro a7 n7 c7 w7 ho7 hg7 _ hn7; clear hn7
              have hb7 : Below w2.heap.size _ w7 := ((Below.refl _ _).alloc (by omega) _).grown hg7 (by simp; omega) (fun g hg => (World.ownsRow.lt HO4.out g hg).1)
              have HD7 := Lib.hid ((HD4.out.thenK hb7 hbw).mono (show _ ≤ n + 30 + 30 * (j + 1) by omega))
              have HI7 : Hid (∀ x ∈ m' ++ [T], 0 ≤ x ∧ x ≤ 11) := Lib.hid (in_snoc HI.out (by omega))
              have hn7 := (ownHead ho7).1
              rw [List.length_append, ← Hm'.out] at hn7
              simp only [List.length_cons, List.length_nil, Nat.zero_add] at hn7
              subst hn7
              have HO7 := Lib.hid ho7
              clear ho7 hg7 HO4 HD4 hb7 hT0 hT1
              go_wp2
              exact ⟨⟨j + 1, a7, c7, _, by go_num, hlt, rfl, HO7, HI7, HD7⟩, by simp [intOf]; omega⟩
        · obtain rfl : j = k := by omega
          go_wp2
          go_ret
          exact ⟨a', j, d', m', rfl, ⟨by rw [← (ownHead HO.out).1]; exact hN1, by rw [← (ownHead HO.out).1]; exact hN12, by have := HNm.out; have := (ownHead HO.out).1; omega, HI.out⟩, own_mono HO.out (by omega), ((HD1.out.trans HDw.out).trans HDr.out).mono (by omega)⟩
theorem l02Draw_c (b n : Nat) (most : Int) (w : World) (h : SrcAt w b n) (hn : n ≤ 1000000) (hm : most ≤ 12) : Calls Tryz.prog 85 #[.pointer (some ⟨b, 0, none⟩), .int .i64 most] w (DrawsL b (n + 400) (fun l => 1 ≤ l.length ∧ l.length ≤ 12 ∧ ((l.length : Int) ≤ most ∨ l.length = 1) ∧ ∀ x ∈ l, 0 ≤ x ∧ x ≤ 20) w) :=
  (l02DrawT_c b n most w h hn hm).mono (fun e w' ⟨a, m, c, l, h1, ⟨h2, h3, h4, h5⟩, h6, h7⟩ => ⟨a, m, c, l, h1, ⟨h2, h3, h4, fun x hx => by have := h5 x hx; omega⟩, h6, h7⟩)
end Go.Proofs.YtcgbdhbdlnimhaaGreat

/- DrawB: lists of throws that are drawn, seldom no patterns. -/
namespace Go.Proofs.YtcgbdhbdlnimhaaGreat
open Go.ChangeShapes Go.WideShapes Go.ChangeAt Go.RowKit

set_option maxRecDepth 100000 in
set_option maxHeartbeats 4000000 in
theorem l02Bent_c (b n : Nat) (w : World) (h : SrcAt w b n) (hn : n ≤ 1000000) : Calls Tryz.prog 46 #[.pointer (some ⟨b, 0, none⟩)] w (DrawsL b (n + 500) (fun l => l.length ≤ 13) w) := by
  have HS := Lib.hid h
  have hbl := h.lt
  clear h
  go_enter Tryz.func46, Tryz.ntmps46
  go_wp2_with fail
  refine (l02Draw_c b n 7 w HS.out (by omega) (by omega)).mono ?_
  rintro e w1 ⟨a, m, c, l, rfl, ⟨h1, h12, -, hin⟩, ho, hd⟩
  obtain ⟨hm, hh⟩ := ownHead ho
  have hm1 : 1 ≤ m := by omega
  have hm12 : m ≤ 12 := by omega
  obtain ⟨g, rfl, hg⟩ := hh hm1
  have HO := Lib.hid ho
  have HDr := Lib.hid hd
  have Hlen := Lib.hid hm
  have HI := Lib.hid hin
  clear h1 h12 hin ho hd hm hh
  go_wp2_with fail
  refine (pick_c b _ (m : Int) _ HDr.out.1 (by omega) (by omega)).mono ?_
  rintro e w2 ⟨r, rfl, hr, hd⟩
  have hrm : r < m := by omega
  replace HO := Lib.hid (own_drew HO.out hd hbl)
  replace HDr := Lib.hid (HDr.out.trans hd)
  clear hd hr
  go_wp2_with fail
  refine (pick_c b _ 14 _ HDr.out.1 (by omega) (by omega)).mono ?_
  rintro e w3 ⟨v, rfl, -, hd⟩
  replace HO := Lib.hid (own_drew HO.out hd hbl)
  replace HDr := Lib.hid (HDr.out.trans hd)
  clear hd
  by_cases h0 : v = 0
  · subst h0
    obtain ⟨e1, f1⟩ := ownCell HO.out r (by rw [← Hlen.out]; exact hrm)
    have hx := nth_in HI.out (show r < l.length by rw [← Hlen.out]; exact hrm)
    generalize nth l r = x at *
    have hsw := HDr.out.2.size
    go_wp2_with fail
    have hl4 := ints_lit (w := w3) [-1, 15, 16, x + 1] _ rfl _ rfl (by simp)
    have hbA : Below w3.heap.size w3 (w3.alloc (.cells (([-1, 15, 16, x + 1] : List Int).map (Value.int .i64)).toArray 2)) := by go_grown
    have HDA := Lib.hid (HDr.out.then_below hbA)
    have HOA := Lib.hid (own_below HO.out hbA)
    refine (among_c b _ _ [-1, 15, 16, x + 1] _ HDA.out.1 (by omega) hl4 (by simp) (by simp) (fun b' o m c e => by injection e with e1; injection e1 with e1; injection e1 with e1; omega)).mono ?_
    rintro e w4 ⟨r4, hr4, rfl, hd⟩
    clear HO HDr
    have HO := Lib.hid (own_drew HOA.out hd hbl)
    have HDr := Lib.hid (HDA.out.trans hd)
    clear hd HOA HDA hl4 hbA hr4 e1 f1 hx
    generalize nth ([-1, 15, 16, x + 1] : List Int) r4 = v0 at *
    obtain ⟨e1, f1⟩ := ownCell HO.out r (by rw [← Hlen.out]; exact hrm)
    have HO9 : Hid (OwnInts (w4.setCell ⟨g, r, none⟩ (.int .i64 v0)) w.heap.size (.slice (some ⟨g, 0, none⟩) m c) (l.set r v0)) := Lib.hid (ownSet HO.out r v0)
    have HD9 : Hid (Drew b (n + 500) w (w4.setCell ⟨g, r, none⟩ (.int .i64 v0))) := Lib.hid ((HDr.out.thenK ((Below.refl _ _).setCell hg _) hbl).mono (by omega))
    have HL9 : Hid ((l.set r v0).length ≤ 13) := Lib.hid (by rw [List.length_set, ← Hlen.out]; omega)
    clear HO HDr
    go_wp2
    go_ret
    exact ⟨_, m, c, _, rfl, HL9.out, HO9.out, HD9.out⟩
  have hz0 : ((v : Int) == 0) = false := beq_eq_false_iff_ne.2 (by omega)
  by_cases h1 : v = 1
  · subst h1
    go_wp2_with fail
    refine (pick_c b _ 10 _ HDr.out.1 (by omega) (by omega)).mono ?_
    rintro e w4 ⟨t, rfl, -, hd⟩
    replace HO := Lib.hid (own_drew HO.out hd hbl)
    replace HDr := Lib.hid (HDr.out.trans hd)
    clear hd
    obtain ⟨e1, f1⟩ := ownCell HO.out r (by rw [← Hlen.out]; exact hrm)
    have HO9 : Hid (OwnInts (w4.setCell ⟨g, r, none⟩ (.int .i64 (t : Int))) w.heap.size (.slice (some ⟨g, 0, none⟩) m c) (l.set r (t : Int))) := Lib.hid (ownSet HO.out r (t : Int))
    have HD9 : Hid (Drew b (n + 500) w (w4.setCell ⟨g, r, none⟩ (.int .i64 (t : Int)))) := Lib.hid ((HDr.out.thenK ((Below.refl _ _).setCell hg _) hbl).mono (by omega))
    have HL9 : Hid ((l.set r (t : Int)).length ≤ 13) := Lib.hid (by rw [List.length_set, ← Hlen.out]; omega)
    clear HO HDr
    go_wp2
    go_ret
    exact ⟨_, m, c, _, rfl, HL9.out, HO9.out, HD9.out⟩
  have hz1 : ((v : Int) == 1) = false := beq_eq_false_iff_ne.2 (by omega)
  by_cases h2 : v = 2
  · subst h2
    have hsw := HDr.out.2.size
    go_wp2
    go_ret
    exact ⟨_, 0, 0, [], rfl, by simp, own_mono (own_empty w3) hsw, (HDr.out.then_below (by go_grown)).mono (by omega)⟩
  have hz2 : ((v : Int) == 2) = false := beq_eq_false_iff_ne.2 (by omega)
  by_cases h3 : v = 3
  · subst h3
    go_wp2_with fail
    have HO3 := Lib.hid (own_empty w3)
    have hbA : Below w3.heap.size w3 (w3.alloc (.cells #[] 2)) := by go_grown
    have HD3 := Lib.hid (Drew.of_below HDr.out.1 hbA)
    have hsw := HDr.out.2.size
    have hb3 : b < w3.heap.size := by omega
    refine (pick_c b _ 2 _ HD3.out.1 (by omega) (by omega)).mono ?_
    rintro e w4 ⟨t, rfl, ht, hd⟩
    have ht2 : t ≤ 1 := by omega
    replace HO3 := Lib.hid (own_drew HO3.out hd hb3)
    replace HD3 := Lib.hid (HD3.out.trans hd)
    clear hd ht hbA
    go_wp2
    go_loopw [3] (fun o wr => ∃ (k : Nat) (a' : Option Addr) (c' : Nat) (l' : List Int), o = .slice a' k c' ∧ k ≤ 13 ∧ Hid (OwnInts wr w3.heap.size (.slice a' k c') l') ∧ Hid (Drew b (n + 450) w3 wr)) (fun o _ => 20 - lenOf o)
    case atStart => exact ⟨0, _, _, [], rfl, Nat.zero_le _, HO3, Lib.hid (HD3.out.mono (by omega))⟩
    case round =>
      obtain ⟨k, a', c', l', rfl, hk, HO, HDk⟩ := hrel
      have Hln : Hid (k = l'.length) := Lib.hid (ownHead HO.out).1
      by_cases hlt : k < 12 + t
      · have hs6 := HDk.out.2.size
        have hlt2 : (k : Int) < 12 + (t : Int) := by omega
        go_wp2_with (at_builtin; refine wpList_app_ints rfl _ _ rfl w3.heap.size _ _ rfl (HO.out.alloc _) _ _ _ [3] rfl rfl (ints_new _ _ _) (by have := Hln.out; simp only [List.length_cons, List.length_nil]; omega) (by simp; omega) ?_)
        intro a7 n7 c7 w7 ho7 hg7 _ hn7; clear hn7
        have hb7 : Below w3.heap.size wr w7 := ((Below.refl _ _).alloc (by omega) _).grown hg7 (by simp; omega) (fun g hg => (World.ownsRow.lt HO.out g hg).1)
        have HD7 := Lib.hid (HDk.out.thenK hb7 hb3)
        have hn7 := (ownHead ho7).1
        rw [List.length_append, ← Hln.out] at hn7
        simp only [List.length_cons, List.length_nil, Nat.zero_add] at hn7
        subst hn7
        have HO7 := Lib.hid ho7
        clear ho7 hg7 HO HDk hb7
        go_wp2
        exact ⟨⟨k + 1, a7, c7, _, rfl, by omega, HO7, HD7⟩, by simp [lenOf]; omega⟩
      · have hlt2 : ¬ (k : Int) < 12 + (t : Int) := by omega
        go_wp2
        go_ret
        exact ⟨a', k, c', l', rfl, (show l'.length ≤ 13 by rw [← Hln.out]; omega), own_mono HO.out hsw, (HDr.out.trans HDk.out).mono (by omega)⟩
  have hz3 : ((v : Int) == 3) = false := beq_eq_false_iff_ne.2 (by omega)
  clear h0 h1 h2 h3
  go_wp2
  go_ret
  exact ⟨_, m, c, l, rfl, by have := Hlen.out; omega, HO.out, HDr.out.mono (by omega)⟩
end Go.Proofs.YtcgbdhbdlnimhaaGreat
