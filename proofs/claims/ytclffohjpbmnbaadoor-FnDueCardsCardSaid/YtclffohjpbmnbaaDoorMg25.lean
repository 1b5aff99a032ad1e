import Derived.Test.YtclffohjpbmnbaaDoorMg18
import Derived.Test.YtclffohjpbmnbaaDoorMg24
/- CardOrdS: the order in which cards are practiced, by the package spec. -/
namespace Go.Proofs.YtclffohjpbmnbaaDoor
open Go.ChangeShapes Go.WideShapes Go.ChangeAt Go.RowKit

set_option maxHeartbeats 2000000 in
theorem l25Before_c (x y : Card) (b p q : Nat) (W : World) (hb : b < W.heap.size) (x0 : W.cell? ⟨b, p, none⟩ = some (.string x.name)) (x1 : W.cell? ⟨b, p + 1, none⟩ = some (.int .i64 x.level)) (x2 : W.cell? ⟨b, p + 2, none⟩ = some (.int .i64 x.due))
    (y0 : W.cell? ⟨b, q, none⟩ = some (.string y.name)) (y1 : W.cell? ⟨b, q + 1, none⟩ = some (.int .i64 y.level)) (y2 : W.cell? ⟨b, q + 2, none⟩ = some (.int .i64 y.due)) :
    Calls Tryd.prog 52 #[.pointer (some ⟨b, p, none⟩), .pointer (some ⟨b, q, none⟩)] W (Gives (.bool (befC x y)) W) := by
  obtain ⟨xn, xl, xd⟩ := x
  obtain ⟨yn, yl, yd⟩ := y
  dsimp only at x0 x1 x2 y0 y1 y2 ⊢
  by_cases h1 : xd = yd
  · subst h1
    have k1 : (xd != xd) = false := by simp
    by_cases h2 : xl = yl
    · subst h2
      have k2 : (xl != xl) = false := by simp
      have HR : Hid (befC ⟨xn, xl, xd⟩ ⟨yn, xl, xd⟩ = lessB xn yn) := Lib.hid (by unfold befC; simp)
      go_enter Tryd.func52, Tryd.ntmps52
      go_wp2
      go_quiet (fail)
      go_wp2
      have hb1 : Below W.heap.size W (W.drewN nq) := below_drewN (Below.refl _ _) nq
      try replace x0 := cell_then hb x0 hb1
      try replace x1 := cell_then hb x1 hb1
      try replace x2 := cell_then hb x2 hb1
      try replace y0 := cell_then hb y0 hb1
      try replace y1 := cell_then hb y1 hb1
      try replace y2 := cell_then hb y2 hb1
      replace hb : b < (W.drewN nq).heap.size := hb
      generalize W.drewN nq = W1 at *
      go_quiet (fail)
      go_wp2
      have hb2 : Below W1.heap.size W1 (W1.drewN nq) := below_drewN (Below.refl _ _) nq
      try replace x0 := cell_then hb x0 hb2
      try replace x1 := cell_then hb x1 hb2
      try replace x2 := cell_then hb x2 hb2
      try replace y0 := cell_then hb y0 hb2
      try replace y1 := cell_then hb y1 hb2
      try replace y2 := cell_then hb y2 hb2
      replace hb : b < (W1.drewN nq).heap.size := hb
      generalize W1.drewN nq = W2 at *
      go_quiet (fail)
      go_wp2
      go_ret
      exact Gives.bool HR.out (below_drewN (bthen hb1 hb2) _)
    · have k2 : (xl != yl) = true := by simpa using h2
      have HR : Hid (befC ⟨xn, xl, xd⟩ ⟨yn, yl, xd⟩ = decide (xl < yl)) := Lib.hid (by unfold befC; simp [h2])
      clear h2
      go_enter Tryd.func52, Tryd.ntmps52
      go_wp2
      go_quiet (fail)
      go_wp2
      have hb1 : Below W.heap.size W (W.drewN nq) := below_drewN (Below.refl _ _) nq
      try replace x0 := cell_then hb x0 hb1
      try replace x1 := cell_then hb x1 hb1
      try replace x2 := cell_then hb x2 hb1
      try replace y0 := cell_then hb y0 hb1
      try replace y1 := cell_then hb y1 hb1
      try replace y2 := cell_then hb y2 hb1
      replace hb : b < (W.drewN nq).heap.size := hb
      generalize W.drewN nq = W1 at *
      go_quiet (fail)
      go_wp2
      have hb2 : Below W1.heap.size W1 (W1.drewN nq) := below_drewN (Below.refl _ _) nq
      try replace x0 := cell_then hb x0 hb2
      try replace x1 := cell_then hb x1 hb2
      try replace x2 := cell_then hb x2 hb2
      try replace y0 := cell_then hb y0 hb2
      try replace y1 := cell_then hb y1 hb2
      try replace y2 := cell_then hb y2 hb2
      replace hb : b < (W1.drewN nq).heap.size := hb
      generalize W1.drewN nq = W2 at *
      go_quiet (fail)
      go_wp2
      go_ret
      exact Gives.bool HR.out (below_drewN (bthen hb1 hb2) _)
  · have k1 : (xd != yd) = true := by simpa using h1
    have HR : Hid (befC ⟨xn, xl, xd⟩ ⟨yn, yl, yd⟩ = decide (xd < yd)) := Lib.hid (by unfold befC; simp [h1])
    clear h1
    go_enter Tryd.func52, Tryd.ntmps52
    go_wp2
    go_quiet (fail)
    go_wp2
    have hb1 : Below W.heap.size W (W.drewN nq) := below_drewN (Below.refl _ _) nq
    try replace x0 := cell_then hb x0 hb1
    try replace x1 := cell_then hb x1 hb1
    try replace x2 := cell_then hb x2 hb1
    try replace y0 := cell_then hb y0 hb1
    try replace y1 := cell_then hb y1 hb1
    try replace y2 := cell_then hb y2 hb1
    replace hb : b < (W.drewN nq).heap.size := hb
    generalize W.drewN nq = W1 at *
    go_quiet (fail)
    go_wp2
    go_ret
    exact Gives.bool HR.out (below_drewN hb1 _)
set_option maxRecDepth 100000 in
set_option maxHeartbeats 2000000 in
theorem l25Order_c (v : Value) (l : List Card) (w : World) (hv : CardsAt w v l) (hok : okCards l = true) : Calls Tryd.prog 27 #[v] w (GivesInts (cardOrder l) w) := by
  obtain ⟨a, n, cap, rfl, hn, hl, hm, hc⟩ := hv
  have Hc := Lib.hid hc; clear hc
  have hn40 : n ≤ 40 := by rw [hn]; exact okCards_len hok
  have Hn := Lib.hid hn; clear hn
  have Hok := Lib.hid hok; clear hok
  go_enter Tryd.func27, Tryd.ntmps27
  go_wp2
  go_loopw [3, 4] (fun s i wr => ∃ (k : Nat) (a1 : Option Addr) (c1 : Nat), s = .slice a1 k c1 ∧ i = .int .i64 k ∧ k ≤ n ∧ Hid (OwnInts wr w.heap.size (.slice a1 k c1) (ordK l k)) ∧ Below w.heap.size w wr) (fun _ i _ => n - (intOf i).toNat)
  case atStart => exact ⟨0, _, _, rfl, rfl, Nat.zero_le _, Lib.hid (own_empty w), by go_grown⟩
  case round =>
    obtain ⟨k, a1, c1, rfl, rfl, hk, HO, hb⟩ := hrel
    by_cases hlt : k < n
    · obtain ⟨ax, nx, cx, he, hlen, hkc, hcm, hA⟩ := HO.out.at
      cases he
      have HA := Lib.hid hA; clear hA
      have Hlen := Lib.hid hlen; clear hlen
      have HSt := Lib.hid (ordK_step l k)
      have HNth := Lib.hid (ordK_nth l k)
      clear HO
      generalize ordK l k = acc at *
      generalize wr = W0 at *
      go_wp2
      go_loopw [5] (fun kk wr2 => ∃ p : Nat, kk = .int .i64 p ∧ p ≤ k ∧ Hid (posB (ltK (dueK l) (lvlK l)) acc k k = posB (ltK (dueK l) (lvlK l)) acc k p) ∧ Below W0.heap.size W0 wr2) (fun kk _ => (intOf kk).toNat)
      case atStart => exact ⟨k, rfl, Nat.le_refl _, Lib.hid rfl, Below.refl _ _⟩
      case round =>
        obtain ⟨p, rfl, hp, HP, hb2⟩ := hrel
        have OUT : Hid (p = posB (ltK (dueK l) (lvlK l)) acc k k → acc.take p ++ (k : Int) :: acc.drop p = ordK l (k + 1)) := Lib.hid (fun h => by rw [HSt.out, ← h])
        have HIns := Lib.hid (fun W x => l00Own_c (.slice a1 p c1) (acc.take p) W x (by rw [List.length_take]; omega))
        have HCut : Hid (IntsAt wr (.slice a1 p c1) (acc.take p)) := Lib.hid (ordCut (HA.out.below hb2) (by rw [← Hlen.out]; exact hp) (by rw [← Hlen.out]; exact hkc) hcm)
        by_cases hp0 : p = 0
        · subst hp0
          have HE : Hid ((acc.take 0 ++ [(k : Int)]) ++ acc = ordK l (k + 1)) := Lib.hid (OUT.out (by rw [HP.out]; rfl))
          clear OUT HP
          go_wp2
          go_quiet (fail)
          replace HCut : Hid (IntsAt (wr.drewN nq) (.slice a1 0 c1) (acc.take 0)) := Lib.hid (HCut.out.below (below_drewN (Below.refl _ _) _))
          replace hb2 : Below W0.heap.size W0 (wr.drewN nq) := below_drewN hb2 nq
          generalize wr.drewN nq = wr at *
          go_wp2_with fail
          refine (HIns.out _ HCut.out).mono ?_
          rintro e w5 ⟨a5, n5, c5, rfl, ho5, hb5'⟩
          have HO5 := Lib.hid ho5
          clear ho5
          have hs5 := hb5'.size
          have hsW := hb2.size
          have hsw := hb.size
          have HlR : Hid ((acc).length ≤ 10000) := Lib.hid (by have := Hlen.out; simp; try omega)
          have Hl6 : Hid ((acc.take 0).length ≤ 10000) := Lib.hid (by rw [List.length_take, ← Hlen.out]; omega)
          go_wp2_with (at_builtin; (refine wpList_app_ints rfl _ _ rfl wr.heap.size _ _ rfl (HO5.out.alloc _) _ _ _ [((k : Int))] rfl rfl (ints_new _ _ _) (by have := Hl6.out; simp only [List.length_cons, List.length_nil]; omega) (by simp; omega) ?_))
          intro a6 n6 c6 w6 ho6 hg6 _ hn6
          clear hn6
          have hb6 : Below wr.heap.size wr w6 := (hb5'.alloc (by omega) _).grown hg6 (by simp; omega) (fun g hg => (World.ownsRow.lt HO5.out g hg).1)
          have HO6 := Lib.hid ho6
          clear ho6 hg6
          go_wp2_with (at_builtin; (refine wpList_app_ints rfl _ _ rfl wr.heap.size _ _ rfl HO6.out _ _ _ (acc) rfl (by exact Hlen.out) ((HA.out.below hb2).below hb6) (by have := Hl6.out; have := HlR.out; (repeat rw [List.length_append]); (repeat rw [List.length_cons]); (try rw [List.length_nil]); omega) hb6.size ?_))
          intro a7 n7 c7 w7 ho7 hg7 _ hn7
          have hb7 : Below wr.heap.size wr w7 := hb6.grown hg7 hb6.size (fun g hg => (World.ownsRow.lt HO6.out g hg).1)
          obtain rfl : n7 = k + 1 := by have := Hlen.out; (try simp only [List.length_append, List.length_take, List.length_drop, List.length_cons, List.length_nil] at hn7); omega
          have HO7 : Hid (OwnInts w7 w.heap.size (.slice a7 (k + 1) c7) (ordK l (k + 1))) := Lib.hid (by have h : OwnInts w7 w.heap.size _ _ := own_monoO ho7 (by omega); have e := HE.out; first | rwa [e] at h | (simp only [List.take_zero, List.nil_append, List.singleton_append] at e; rwa [e] at h) | (simp only [List.append_nil] at e; rwa [e] at h) | (simp only [List.append_assoc, List.singleton_append] at e; rwa [e] at h) | (simp at e; simp at h; rwa [e] at h))
          clear ho7 hg7 hn7 HO6 HO5 HIns HCut
          go_wp2
          exact ⟨⟨k + 1, a7, c7, rfl, by go_num, hlt, HO7, bthen hb (bthen hb2 hb7)⟩, by simp [intOf]; omega⟩
        · have hpp : p - 1 < k := by omega
          obtain ⟨q, hq, eq⟩ := HNth.out (p - 1) hpp
          obtain ⟨b5, o5, rfl, hb5, f0⟩ := (HA.out.below hb2) (p - 1) (by rw [← Hlen.out]; omega)
          rw [eq] at f0
          obtain ⟨b, o, rfl, hbs, -, x0, x1, x2⟩ := (Hc.out.below (bthen hb hb2)) k (by rw [← Hn.out]; exact hlt)
          obtain ⟨b', o', he, -, -, y0, y1, y2⟩ := (Hc.out.below (bthen hb hb2)) q (by rw [← Hn.out]; omega)
          cases he
          have HBf := Lib.hid (fun W (x : Below wr.heap.size wr W) => by have h := l25Before_c (nth l k) (nth l q) b (o + k * 3) (o + q * 3) W (Nat.lt_of_lt_of_le hbs x.size) (cell_then hbs x0 x) (cell_then hbs x1 x) (cell_then hbs x2 x) (cell_then hbs y0 x) (cell_then hbs y1 x) (cell_then hbs y2 x); rwa [befC_ltK Hok.out hq (by rw [← Hn.out]; exact hlt)] at h)
          have hps : posB (ltK (dueK l) (lvlK l)) acc k p = if ltK (dueK l) (lvlK l) k q = true then posB (ltK (dueK l) (lvlK l)) acc k (p - 1) else p := by
            obtain ⟨r, rfl⟩ : ∃ r, p = r + 1 := ⟨p - 1, by omega⟩
            have h := posB_ostep (dueK l) (lvlK l) acc k r
            rw [show nth acc r = (q : Int) from eq] at h
            exact h
          have k0 := cell_regrown f0
          have hgt : decide (0 < p) = true := decide_eq_true (by omega)
          have hw1 : IntKind.i64.wrap ((p : Int) - 1) = (p : Int) - 1 := IntWalk.i64_in _ (by omega)
          clear x0 x1 x2 y0 y1 y2 eq f0
          cases hT : ltK (dueK l) (lvlK l) k q
          · rw [hT] at hps HBf
            have HP2 : Hid (posB (ltK (dueK l) (lvlK l)) acc k k = p) := Lib.hid (by rw [HP.out, hps, if_neg (by decide)])
            have HE : Hid ((acc.take p ++ [(k : Int)]) ++ acc.drop p = ordK l (k + 1)) := Lib.hid (by rw [← OUT.out HP2.out.symm]; simp)
            clear hps hT HP OUT HP2
            go_wp2
            refine wp_region_quiet_below (by kernel_rfl) (by kernel_rfl) ?_
            repeat (first | go_big_quiet_step (exact Calls.regrown_of (HBf.out _ (below_regrown _ _ _))) | quiet_step (exact Calls.regrown_of (HBf.out _ (below_regrown _ _ _))))
            refine wpQuiet_nil ?_
            intro _ hw'
            obtain ⟨⟨dq, osq⟩, hw''⟩ := hw'
            subst hw''
            have hbq := below_regrown wr dq osq
            generalize Go.Sort.grow (redrawn wr dq) osq = wq at *
            replace HCut : Hid (IntsAt wq (.slice _ p c1) (acc.take p)) := Lib.hid (HCut.out.below hbq)
            replace hb2 : Below W0.heap.size W0 wq := bthen hb2 hbq
            clear k0 HBf hbq hb5 hbs
            by_cases hcp : c1 = p
            · obtain rfl : k = p := by omega
              have hcp2 := hcp.symm
              subst hcp2
              have HE : Hid ((acc.take k ++ [(k : Int)]) ++ ([] : List Int) = ordK l (k + 1)) := Lib.hid (by rw [← HE.out, List.drop_eq_nil_of_le (by rw [← Hlen.out]; exact Nat.le_refl _)])
              go_wp2_with fail
              refine (HIns.out _ HCut.out).mono ?_
              rintro e w5 ⟨a5, n5, c5, rfl, ho5, hb5'⟩
              have HO5 := Lib.hid ho5
              clear ho5
              have hs5 := hb5'.size
              have hsW := hb2.size
              have hsw := hb.size
              have HlR : Hid ((([] : List Int)).length ≤ 10000) := Lib.hid (by have := Hlen.out; simp; try omega)
              have Hl6 : Hid ((acc.take k).length ≤ 10000) := Lib.hid (by rw [List.length_take, ← Hlen.out]; omega)
              go_wp2_with (at_builtin; (refine wpList_app_ints rfl _ _ rfl wq.heap.size _ _ rfl (HO5.out.alloc _) _ _ _ [((k : Int))] rfl rfl (ints_new _ _ _) (by have := Hl6.out; simp only [List.length_cons, List.length_nil]; omega) (by simp; omega) ?_))
              intro a6 n6 c6 w6 ho6 hg6 _ hn6
              clear hn6
              have hb6 : Below wq.heap.size wq w6 := (hb5'.alloc (by omega) _).grown hg6 (by simp; omega) (fun g hg => (World.ownsRow.lt HO5.out g hg).1)
              have HO6 := Lib.hid ho6
              clear ho6 hg6
              go_wp2_with (at_builtin; (refine wpList_app_ints rfl _ _ rfl wq.heap.size _ _ rfl HO6.out _ _ _ (([] : List Int)) rfl (by simp) (fun i hi => absurd hi (Nat.not_lt_zero _)) (by have := Hl6.out; have := HlR.out; (repeat rw [List.length_append]); (repeat rw [List.length_cons]); (try rw [List.length_nil]); omega) hb6.size ?_))
              intro a7 n7 c7 w7 ho7 hg7 _ hn7
              have hb7 : Below wq.heap.size wq w7 := hb6.grown hg7 hb6.size (fun g hg => (World.ownsRow.lt HO6.out g hg).1)
              obtain rfl : n7 = k + 1 := by have := Hlen.out; (try simp only [List.length_append, List.length_take, List.length_drop, List.length_cons, List.length_nil] at hn7); omega
              have HO7 : Hid (OwnInts w7 w.heap.size (.slice a7 (k + 1) c7) (ordK l (k + 1))) := Lib.hid (by have h : OwnInts w7 w.heap.size _ _ := own_monoO ho7 (by omega); have e := HE.out; first | rwa [e] at h | (simp only [List.take_zero, List.nil_append, List.singleton_append] at e; rwa [e] at h) | (simp only [List.append_nil] at e; rwa [e] at h) | (simp only [List.append_assoc, List.singleton_append] at e; rwa [e] at h) | (simp at e; simp at h; rwa [e] at h))
              clear ho7 hg7 hn7 HO6 HO5 HIns HCut
              go_wp2
              exact ⟨⟨k + 1, a7, c7, rfl, by go_num, hlt, HO7, bthen hb (bthen hb2 hb7)⟩, by simp [intOf]; omega⟩
            · have HX := Lib.hid (ordFrom (HA.out.below hb2) Hlen.out hp hkc hcm)
              go_wp2_with fail
              refine (HIns.out _ HCut.out).mono ?_
              rintro e w5 ⟨a5, n5, c5, rfl, ho5, hb5'⟩
              have HO5 := Lib.hid ho5
              clear ho5
              have hs5 := hb5'.size
              have hsW := hb2.size
              have hsw := hb.size
              have HlR : Hid ((acc.drop p).length ≤ 10000) := Lib.hid (by have := Hlen.out; simp; try omega)
              have Hl6 : Hid ((acc.take p).length ≤ 10000) := Lib.hid (by rw [List.length_take, ← Hlen.out]; omega)
              go_wp2_with (at_builtin; (refine wpList_app_ints rfl _ _ rfl wq.heap.size _ _ rfl (HO5.out.alloc _) _ _ _ [((k : Int))] rfl rfl (ints_new _ _ _) (by have := Hl6.out; simp only [List.length_cons, List.length_nil]; omega) (by simp; omega) ?_))
              intro a6 n6 c6 w6 ho6 hg6 _ hn6
              clear hn6
              have hb6 : Below wq.heap.size wq w6 := (hb5'.alloc (by omega) _).grown hg6 (by simp; omega) (fun g hg => (World.ownsRow.lt HO5.out g hg).1)
              have HO6 := Lib.hid ho6
              clear ho6 hg6
              go_wp2_with (at_builtin; (refine wpList_app_ints rfl _ _ rfl wq.heap.size _ _ rfl HO6.out _ _ _ (acc.drop p) rfl (by rw [List.length_drop, ← Hlen.out]) (by have h := HX.out; rw [Option.map_some, oaddr] at h; obtain ⟨_, _, _, e, _, _, _, h⟩ := h; injection e with e1; subst e1; exact h.below hb6) (by have := Hl6.out; have := HlR.out; (repeat rw [List.length_append]); (repeat rw [List.length_cons]); (try rw [List.length_nil]); omega) hb6.size ?_))
              intro a7 n7 c7 w7 ho7 hg7 _ hn7
              have hb7 : Below wq.heap.size wq w7 := hb6.grown hg7 hb6.size (fun g hg => (World.ownsRow.lt HO6.out g hg).1)
              obtain rfl : n7 = k + 1 := by have := Hlen.out; (try simp only [List.length_append, List.length_take, List.length_drop, List.length_cons, List.length_nil] at hn7); omega
              have HO7 : Hid (OwnInts w7 w.heap.size (.slice a7 (k + 1) c7) (ordK l (k + 1))) := Lib.hid (by have h : OwnInts w7 w.heap.size _ _ := own_monoO ho7 (by omega); have e := HE.out; first | rwa [e] at h | (simp only [List.take_zero, List.nil_append, List.singleton_append] at e; rwa [e] at h) | (simp only [List.append_nil] at e; rwa [e] at h) | (simp only [List.append_assoc, List.singleton_append] at e; rwa [e] at h) | (simp at e; simp at h; rwa [e] at h))
              clear ho7 hg7 hn7 HO6 HO5 HIns HCut
              go_wp2
              exact ⟨⟨k + 1, a7, c7, rfl, by go_num, hlt, HO7, bthen hb (bthen hb2 hb7)⟩, by simp [intOf]; omega⟩
          · rw [hT] at hps HBf
            have HP2 : Hid (posB (ltK (dueK l) (lvlK l)) acc k k = posB (ltK (dueK l) (lvlK l)) acc k (p - 1)) := Lib.hid (by rw [HP.out, hps, if_pos rfl])
            clear hps hT HP OUT HIns HCut
            go_wp2
            refine wp_region_quiet_below (by kernel_rfl) (by kernel_rfl) ?_
            repeat (first | go_big_quiet_step (exact Calls.regrown_of (HBf.out _ (below_regrown _ _ _))) | quiet_step (exact Calls.regrown_of (HBf.out _ (below_regrown _ _ _))))
            refine wpQuiet_nil ?_
            intro _ hw'
            obtain ⟨⟨dq, osq⟩, hw''⟩ := hw'
            subst hw''
            have hbq := below_regrown wr dq osq
            generalize Go.Sort.grow (redrawn wr dq) osq = wq at *
            go_wp2
            exact ⟨⟨p - 1, by go_num, by omega, HP2, bthen hb2 hbq⟩, by simp [intOf]; omega⟩
    · obtain rfl : k = n := by omega
      have HR : Hid (OwnInts wr w.heap.size (.slice a1 k c1) (cardOrder l)) := Lib.hid (by unfold cardOrder; rw [← Hn.out]; exact HO.out)
      clear HO
      go_wp2
      go_ret
      exact ⟨_, _, _, rfl, HR.out, hb⟩
end Go.Proofs.YtclffohjpbmnbaaDoor
