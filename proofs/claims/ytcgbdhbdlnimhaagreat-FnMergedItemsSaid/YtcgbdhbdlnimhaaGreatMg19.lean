import Derived.Test.YtcgbdhbdlnimhaaGreatMg18
import Derived.Deep.RegionHeld3
import Derived.Laws.Bits64b
import Derived.Test.YtcgbdhbdlnimhaaGreatMg15
/- Src: choices drawn from bytes. -/
namespace Go.Proofs.YtcgbdhbdlnimhaaGreat
open Go.ChangeShapes Go.WideShapes Go.ChangeAt Go.RowKit

theorem src_store1 {w : World} {b : Nat} {a : Option Addr} {m c k : Nat} {sd : Int} (k' : Int) (h : BoxIs w b [.slice a m c, .int .i64 k, .int .u64 sd]) : BoxIs (w.setCell ⟨b, 1, none⟩ (.int .i64 k')) b [.slice a m c, .int .i64 k', .int .u64 sd] := h.set 1 (by simp) _
theorem src_store2 {w : World} {b : Nat} {a : Option Addr} {m c : Nat} {k sd : Int} (sd' : Int) (h : BoxIs w b [.slice a m c, .int .i64 k, .int .u64 sd]) : BoxIs (w.setCell ⟨b, 2, none⟩ (.int .u64 sd')) b [.slice a m c, .int .i64 k, .int .u64 sd'] := h.set 2 (by simp) _
theorem BytesC.set {w : World} {a : Option Addr} {l : List Int} (h : BytesC w a l) {p : Addr} (hp : 0 < l.length → ∀ b o, a = some ⟨b, o, none⟩ → b ≠ p.block) (u : Value) : BytesC (w.setCell p u) a l := by
  intro i hi
  obtain ⟨b, o, ha, hs, c0⟩ := h i hi
  exact ⟨b, o, ha, by simpa [World.setCell] using hs, (World.cell?_setCell_other w p ⟨b, _, none⟩ u (fun e => hp (by omega) b o ha (congrArg Addr.block e).symm)).trans c0⟩
theorem u64_in (x : Int) : 0 ≤ IntKind.u64.wrap x ∧ IntKind.u64.wrap x ≤ 18446744073709551615 := by
  have h1 := Int.emod_nonneg x (show (18446744073709551616 : Int) ≠ 0 by decide)
  have h2 := Int.emod_lt_of_pos x (show (0 : Int) < 18446744073709551616 by decide)
  have e : IntKind.u64.wrap x = x % 18446744073709551616 := rfl
  rw [e]; omega
theorem and255 (x : Int) (h0 : 0 ≤ x) (h1 : x ≤ 18446744073709551615) : ∃ r : Nat, bits BinOp.and IntKind.u64 x 255 = (r : Int) ∧ r ≤ 255 := by
  obtain ⟨u, rfl⟩ : ∃ u : Nat, x = (u : Int) := ⟨x.toNat, by omega⟩
  exact ⟨u &&& 255, bits_and_u64_nat u 255 (by omega) (by omega), Nat.and_le_right⟩
set_option maxHeartbeats 2000000 in
theorem next_c (b n : Nat) (w : World) (h : SrcAt w b n) (hn : n ≤ 1000000000) : Calls Tryz.prog 84 #[.pointer (some ⟨b, 0, none⟩)] w (DrawsI b (n + 1) 0 255 w) := by
  obtain ⟨a, m, c, cs, k, sd, hk, hm, hmc, hB, hC, hin, hne, hs0, hs1⟩ := h
  have HB := Lib.hid hB
  have HC := Lib.hid hC
  have Hin := Lib.hid hin
  have Hmc := Lib.hid hmc
  have e0 := hB.2.1
  have f0 := hB.2.2
  have hbl := hB.1
  clear hB hC hin hmc
  by_cases hlt : k < m
  · obtain ⟨b', o, rfl, hbs, c0⟩ := HC.out k (by rw [← Hmc.out]; exact hlt)
    have hx := Hin.out _ (mem_nth (show k < cs.length by rw [← Hmc.out]; exact hlt))
    generalize nth cs k = x at *
    go_enter Tryz.func84, Tryz.ntmps84
    go_wp2
    go_quiet (fail)
    have hd1 : Below w.heap.size w (w.drewN nq) := below_drewN (Below.refl _ _) nq
    have HB1 := Lib.hid (HB.out.below hd1)
    have HC1 := Lib.hid (HC.out.below hd1)
    replace c0 := cell_then hbs c0 hd1
    replace hbs : b' < (w.drewN nq).heap.size := hbs
    clear e0 f0
    generalize w.drewN nq = w1 at *
    have e0 := HB1.out.2.1
    have f0 := HB1.out.2.2
    have hkm : (k : Int) < (m : Int) := by omega
    have hk0 : (0 : Int) ≤ (k : Int) := by omega
    go_wp2
    go_quiet (fail)
    have hd2 : Below w1.heap.size w1 (w1.drewN nq) := below_drewN (Below.refl _ _) nq
    have HB2 := Lib.hid (HB1.out.below hd2)
    have HC2 := Lib.hid (HC1.out.below hd2)
    have hd12 := bthen hd1 hd2
    clear e0 f0 c0
    generalize w1.drewN nq = w2 at *
    have e0 := HB2.out.2.1
    have f0 := HB2.out.2.2
    go_wp2
    have hsz3 : b < w2.heap.size := HB2.out.1
    have hsd := u64_in (IntKind.u64.wrap (IntKind.u64.wrap (sd * 6364136223846793005) + (0 : Int)) + 1442695040888963407)
    generalize hG : IntKind.u64.wrap (IntKind.u64.wrap (IntKind.u64.wrap (sd * 6364136223846793005) + x) + 1442695040888963407) = sd2 at *
    have hsd2 : 0 ≤ sd2 ∧ sd2 ≤ 18446744073709551615 := by rw [← hG]; exact u64_in _
    have HB3' := Lib.hid (src_store2 sd2 (src_store1 ((k : Int) + 1) HB2.out))
    have HC3' := Lib.hid ((HC2.out.set (p := ⟨b, 1, none⟩) (fun h0 b' o e => Nat.ne_of_lt (hne h0 b' o e)) (.int .i64 ((k : Int) + 1))).set (p := ⟨b, 2, none⟩) (fun h0 b' o e => Nat.ne_of_lt (hne h0 b' o e)) (.int .u64 sd2))
    have HT3' : Hid (Turned b (b + 1) w ((w2.setCell ⟨b, 1, none⟩ (.int .i64 ((k : Int) + 1))).setCell ⟨b, 2, none⟩ (.int .u64 sd2))) := Lib.hid (((Turned.of_below hd12).set (p := ⟨b, 1, none⟩) (Nat.le_refl _) (Nat.lt_succ_self _) _).set (p := ⟨b, 2, none⟩) (Nat.le_refl _) (Nat.lt_succ_self _) _)
    clear hsd hG e0 f0
    generalize (w2.setCell ⟨b, 1, none⟩ (.int .i64 ((k : Int) + 1))).setCell ⟨b, 2, none⟩ (.int .u64 sd2) = w3 at *
    have e0 := HB3'.out.2.1
    have f0 := HB3'.out.2.2
    have hle : ((k : Int) + 1) ≤ (m : Int) := by omega
    go_wp2
    go_quiet (fail)
    go_wp2
    go_ret
    exact ⟨x, rfl, hx.1, hx.2, ⟨⟨_, _, _, cs, k + 1, sd2, by omega, hm, Hmc.out, by have := HB3'.out.below (below_drewN (Below.refl _ _) nq); simpa using this, HC3'.out.below (below_drewN (Below.refl _ _) nq), Hin.out, hne, hsd2.1, hsd2.2⟩, HT3'.out.then_below (below_drewN (Below.refl _ _) nq)⟩⟩
  · have hge : ¬ (k : Int) < (m : Int) := by omega
    have hge2 : decide ((k : Int) < (m : Int)) = false := decide_eq_false hge
    go_enter Tryz.func84, Tryz.ntmps84
    go_wp2
    go_quiet (fail)
    have hd1 : Below w.heap.size w (w.drewN nq) := below_drewN (Below.refl _ _) nq
    have HB1 := Lib.hid (HB.out.below hd1)
    have HC1 := Lib.hid (HC.out.below hd1)
    clear e0 f0
    generalize w.drewN nq = w1 at *
    have e0 := HB1.out.2.1
    have f0 := HB1.out.2.2
    go_wp2
    have hsz3 : b < w1.heap.size := HB1.out.1
    have hsd := u64_in (IntKind.u64.wrap (IntKind.u64.wrap (sd * 6364136223846793005) + (0 : Int)) + 1442695040888963407)
    generalize hG : IntKind.u64.wrap (IntKind.u64.wrap (IntKind.u64.wrap (sd * 6364136223846793005)) + 1442695040888963407) = sd2 at *
    have hsd2 : 0 ≤ sd2 ∧ sd2 ≤ 18446744073709551615 := by rw [← hG]; exact u64_in _
    have HB3' := Lib.hid (src_store2 sd2 (src_store1 ((k : Int) + 1) HB1.out))
    have HC3' := Lib.hid ((HC1.out.set (p := ⟨b, 1, none⟩) (fun h0 b' o e => Nat.ne_of_lt (hne h0 b' o e)) (.int .i64 ((k : Int) + 1))).set (p := ⟨b, 2, none⟩) (fun h0 b' o e => Nat.ne_of_lt (hne h0 b' o e)) (.int .u64 sd2))
    have HT3' : Hid (Turned b (b + 1) w ((w1.setCell ⟨b, 1, none⟩ (.int .i64 ((k : Int) + 1))).setCell ⟨b, 2, none⟩ (.int .u64 sd2))) := Lib.hid (((Turned.of_below hd1).set (p := ⟨b, 1, none⟩) (Nat.le_refl _) (Nat.lt_succ_self _) _).set (p := ⟨b, 2, none⟩) (Nat.le_refl _) (Nat.lt_succ_self _) _)
    clear hsd hG e0 f0
    generalize (w1.setCell ⟨b, 1, none⟩ (.int .i64 ((k : Int) + 1))).setCell ⟨b, 2, none⟩ (.int .u64 sd2) = w3 at *
    have e0 := HB3'.out.2.1
    have f0 := HB3'.out.2.2
    have hle : ¬ ((k : Int) + 1) ≤ (m : Int) := by omega
    obtain ⟨r, hr, hr2⟩ := and255 (sd2 / 1099511627776) (by omega) (by omega)
    go_wp2
    go_quiet (fail)
    go_wp2
    go_ret
    exact ⟨r, rfl, by omega, by omega, ⟨⟨_, _, _, cs, k + 1, sd2, by omega, hm, Hmc.out, by have := HB3'.out.below (below_drewN (Below.refl _ _) nq); simpa using this, HC3'.out.below (below_drewN (Below.refl _ _) nq), Hin.out, hne, hsd2.1, hsd2.2⟩, HT3'.out.then_below (below_drewN (Below.refl _ _) nq)⟩⟩
set_option maxHeartbeats 1000000 in
theorem pick_c (b n : Nat) (k : Int) (w : World) (h : SrcAt w b n) (hn : n ≤ 100000000) (hk : k ≤ 1000000) : Calls Tryz.prog 45 #[.pointer (some ⟨b, 0, none⟩), .int .i64 k] w fun e w' => ∃ r : Nat, e = .returned (.int .i64 r) ∧ ((r : Int) < k ∨ r = 0) ∧ Drew b (n + 2) w w' := by
  have HN := Lib.hid (fun m W x (y : m ≤ 1000000000) => next_c b m W x y)
  have HS := Lib.hid h; clear h
  by_cases h1 : k ≤ 1
  · go_enter Tryz.func45, Tryz.ntmps45
    go_wp2
    go_ret
    exact ⟨0, rfl, .inr rfl, Drew.refl (HS.out.mono (by omega))⟩
  · by_cases h2 : k ≤ 200
    · have h3 : ¬ (200 : Int) < k := by omega
      go_enter Tryz.func45, Tryz.ntmps45
      go_wp2_with fail
      refine (HN.out n _ HS.out (by omega)).mono ?_
      rintro e w1 ⟨x, rfl, hx0, hx1, hd⟩
      obtain ⟨u, rfl⟩ : ∃ u : Nat, x = (u : Int) := ⟨x.toNat, by omega⟩
      have hk0 : (k == 0) = false := beq_eq_false_iff_ne.2 (by omega)
      have hm : (u : Int).tmod k = (u : Int) % k := Int.tmod_eq_emod_of_nonneg (by omega)
      have hm1 := Int.emod_nonneg (u : Int) (show k ≠ 0 by omega)
      have hm2 := Int.emod_lt_of_pos (u : Int) (show 0 < k by omega)
      generalize hv : (u : Int) % k = v at *
      obtain ⟨vn, rfl⟩ : ∃ vn : Nat, v = (vn : Int) := ⟨v.toNat, by omega⟩
      have hw : IntKind.i64.wrap (vn : Int) = (vn : Int) := IntWalk.i64_in _ (by omega)
      go_wp2
      go_ret
      exact ⟨vn, rfl, .inl (by omega), hd.mono (by omega)⟩
    · have h3 : (200 : Int) < k := by omega
      go_enter Tryz.func45, Tryz.ntmps45
      go_wp2_with fail
      refine (HN.out n _ HS.out (by omega)).mono ?_
      rintro e w1 ⟨x, rfl, hx0, hx1, hd⟩
      go_wp2_with fail
      refine (HN.out (n + 1) _ hd.1 (by omega)).mono ?_
      rintro e w2 ⟨x', rfl, hx0', hx1', hd'⟩
      obtain ⟨u, hu⟩ : ∃ u : Nat, x * 256 + x' = (u : Int) := ⟨(x * 256 + x').toNat, by omega⟩
      have hk0 : (k == 0) = false := beq_eq_false_iff_ne.2 (by omega)
      have hm : (x * 256 + x').tmod k = (x * 256 + x') % k := Int.tmod_eq_emod_of_nonneg (by omega)
      have hm1 := Int.emod_nonneg (x * 256 + x') (show k ≠ 0 by omega)
      have hm2 := Int.emod_lt_of_pos (x * 256 + x') (show 0 < k by omega)
      generalize hv : (x * 256 + x') % k = v at *
      obtain ⟨vn, rfl⟩ : ∃ vn : Nat, v = (vn : Int) := ⟨v.toNat, by omega⟩
      have hw : IntKind.i64.wrap (vn : Int) = (vn : Int) := IntWalk.i64_in _ (by omega)
      clear hu
      go_wp2
      go_ret
      exact ⟨vn, rfl, .inl (by omega), hd.trans hd'⟩
theorem one_c (b n : Nat) (k : Int) (w : World) (h : SrcAt w b n) (hn : n ≤ 100000000) (hk : k ≤ 1000000) : Calls Tryz.prog 44 #[.pointer (some ⟨b, 0, none⟩), .int .i64 k] w (DrawsB b (n + 2) w) := by
  have HP := Lib.hid (pick_c b n k w h hn hk)
  go_enter Tryz.func44, Tryz.ntmps44
  go_wp2_with fail
  refine HP.out.mono ?_
  rintro e w1 ⟨r, rfl, -, hd⟩
  go_wp2
  go_ret
  exact ⟨_, rfl, hd⟩
set_option maxHeartbeats 1000000 in
theorem among_c (b n : Nat) (v : Value) (l : List Int) (w : World) (h : SrcAt w b n) (hn : n ≤ 100000000) (hv : IntsAt w v l) (hl : 0 < l.length) (hl2 : l.length ≤ 1000) (hvb : ∀ b' o m c, v = .slice (some ⟨b', o, none⟩) m c → b' ≠ b) :
    Calls Tryz.prog 78 #[.pointer (some ⟨b, 0, none⟩), v] w fun e w' => ∃ r : Nat, r < l.length ∧ e = .returned (.int .i64 (nth l r)) ∧ Drew b (n + 2) w w' := by
  have HV := Lib.hid hv
  obtain ⟨a, m, c, rfl, hm, -, -, -⟩ := hv
  have HP := Lib.hid (pick_c b n (m : Int) w h hn (by omega))
  have Hm := Lib.hid hm
  have Hvb := Lib.hid hvb
  have Hl := Lib.hid hl
  clear h hvb hm hl hl2
  go_enter Tryz.func78, Tryz.ntmps78
  go_wp2_with fail
  refine HP.out.mono ?_
  rintro e w1 ⟨r, rfl, hr, hd⟩
  have hrl : r < l.length := by have := Hm.out; have := Hl.out; omega
  obtain ⟨a', m', c', he, hm', -, -, hc⟩ := HV.out.drew hd (fun _ => Hvb.out)
  cases he
  obtain ⟨b', o, rfl, hbs, c0⟩ := hc r hrl
  have hrm : r < m := by have := Hm.out; omega
  have Hrl := Lib.hid hrl
  have HD := Lib.hid hd
  clear hm' hc hr hrl hd
  go_wp2
  go_ret
  exact ⟨r, Hrl.out, rfl, HD.out⟩
theorem l00From_c (v : Value) (cs : List Int) (w : World) (hv : BytesAt w v cs) (hin : ∀ x ∈ cs, 0 ≤ x ∧ x ≤ 255) (hl : cs.length ≤ 4096) : Calls Tryz.prog 41 #[v] w fun e w' => e = .returned (.pointer (some ⟨w.heap.size, 0, none⟩)) ∧ SrcAt w' w.heap.size 0 ∧ Below w.heap.size w w' := by
  have HV := Lib.hid hv
  obtain ⟨a, m, c, rfl, hm, -, -, hc⟩ := hv
  have HC := Lib.hid hc
  have Hm := Lib.hid hm
  clear hc hm
  go_enter Tryz.func41, Tryz.ntmps41
  go_wp2
  go_ret
  refine ⟨rfl, ⟨a, m, c, cs, 0, 0, Nat.le_refl _, by have := Hm.out; omega, Hm.out, BoxIs.new w _ _, HC.out.below (by go_grown), hin, ?_, by decide, by decide⟩, by go_grown⟩
  rintro h0 b' o rfl
  obtain ⟨b2, o2, he, hbs, _⟩ := HC.out 0 h0
  cases he
  exact hbs
end Go.Proofs.YtcgbdhbdlnimhaaGreat

/- DrawQ: queries that are drawn. -/
namespace Go.Proofs.YtcgbdhbdlnimhaaGreat
open Go.ChangeShapes Go.WideShapes Go.ChangeAt Go.RowKit

theorem box_drew {w w' : World} {b n c : Nat} {l : List Value} (h : BoxIs w c l) (hd : Drew b n w w') (hc : c ≠ b) : BoxIs w' c l := h.turned hd.2 (by omega)
theorem own_fresh {w : World} {base : Nat} {v : Value} {l : List Int} (h : OwnInts w base v l) : ∀ b' o m c, v = .slice (some ⟨b', o, none⟩) m c → base ≤ b' := by
  rintro b' o m c rfl
  exact (World.ownsRow.lt h b' rfl).1
theorem put_mem {l l' : List Int} {x y : Int} (h : ∀ u ∈ l', u = x ∨ u ∈ l) (hy : y = x ∨ y ∈ l) : ∀ u ∈ l' ++ [y], u = x ∨ u ∈ l := by
  intro u hu
  rcases List.mem_append.1 hu with hu | hu
  · exact h u hu
  · rw [List.mem_singleton.1 hu]; exact hy
theorem put_mem2 {l l' : List Int} {x y : Int} (h : ∀ u ∈ l', u = x ∨ u ∈ l) (hy : y = x ∨ y ∈ l) : ∀ u ∈ l' ++ [x, y], u = x ∨ u ∈ l := by
  intro u hu
  rcases List.mem_append.1 hu with hu | hu
  · exact h u hu
  · rcases List.mem_cons.1 hu with hu | hu
    · exact .inl hu
    · rw [List.mem_singleton.1 hu]; exact hy
end Go.Proofs.YtcgbdhbdlnimhaaGreat
