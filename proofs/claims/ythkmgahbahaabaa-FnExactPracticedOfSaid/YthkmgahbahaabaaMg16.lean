import Derived.Test.YthkmgahbahaabaaMg12
/- CmpPure: how two lists compare, by the package impl: nothing is made on the way. -/
namespace Go.Proofs.Ythkmgahbahaabaa
open Go.ChangeShapes Go.WideShapes Go.ChangeAt Go.RowKit

theorem drewK {w wr : World} (h : ∃ q, wr = w.drewN q) (n : Nat) : ∃ q, wr.drewN n = w.drewN q := by
  obtain ⟨q, rfl⟩ := h
  exact ⟨q + n, World.drewN_drewN ..⟩
theorem drewT {w w1 w2 : World} (h : ∃ q, w1 = w.drewN q) (k : ∃ q, w2 = w1.drewN q) : ∃ q, w2 = w.drewN q := by
  obtain ⟨q, rfl⟩ := k
  exact drewK h q
theorem drewC {w wr : World} {p : Addr} {x : Value} (h : ∃ q, wr = w.drewN q) (c : w.cell? p = some x) : wr.cell? p = some x := by
  obtain ⟨q, rfl⟩ := h
  exact c
theorem drewB {w wr : World} (h : ∃ q, wr = w.drewN q) : Below w.heap.size w wr := by
  obtain ⟨q, rfl⟩ := h
  exact below_drewN (Below.refl _ _) q
/-- A number, and nothing made. -/
def GivesP (z : Int) (w : World) (e : Ending) (w' : World) : Prop := e = .returned (.int .i64 z) ∧ ∃ q, w' = w.drewN q
theorem GivesP.mk {z y : Int} {w w' : World} (h : z = y) (hq : ∃ q, w' = w.drewN q) : GivesP z w (.returned (.int .i64 y)) w' := ⟨by rw [h], hq⟩
set_option maxHeartbeats 1000000 in
theorem comparePure_c (v u : Value) (l m : List Int) (w : World) (hv : IntsAt w v l) (hu : IntsAt w u m) : Calls Try.prog 25 #[v, u] w (GivesP (cmpL l m) w) := by
  obtain ⟨a, n, cap, rfl, hn, hl, hm, hc⟩ := hv
  obtain ⟨a', n', cap', rfl, hn', -, hm', hc'⟩ := hu
  have Hc := Lib.hid hc; clear hc
  have Hc' := Lib.hid hc'; clear hc'
  have h0 : ∃ q, w = w.drewN q := ⟨0, rfl⟩
  by_cases h1 : n < n'
  · have HR : Hid (cmpL l m = -1) := Lib.hid (by unfold cmpL; rw [← hn, ← hn', if_pos h1])
    have hne : ((n : Int) != (n' : Int)) = true := by simp; omega
    have H0 := Lib.hid h0
    clear hn hn' h0
    go_enter Try.func25, Try.ntmps25
    go_wp2
    go_ret
    exact GivesP.mk HR.out H0.out
  by_cases h2 : n' < n
  · have HR : Hid (cmpL l m = 1) := Lib.hid (by unfold cmpL; rw [← hn, ← hn', if_neg h1, if_pos h2])
    have hne : ((n : Int) != (n' : Int)) = true := by simp; omega
    have H0 := Lib.hid h0
    clear hn hn' h0
    go_enter Try.func25, Try.ntmps25
    go_wp2
    go_ret
    exact GivesP.mk HR.out H0.out
  obtain rfl : n = n' := by omega
  have HR : Hid (cmpL l m = cmpF l m) := Lib.hid (by unfold cmpL; rw [← hn, ← hn', if_neg h1, if_neg h1])
  have Hn := Lib.hid hn; clear hn
  have Hn' := Lib.hid hn'; clear hn' h1 h2
  have H0 := Lib.hid h0
  clear h0
  go_enter Try.func25, Try.ntmps25
  go_wp2
  go_loopw [20] (fun i wr => ∃ k : Nat, i = .int .i64 k ∧ k ≤ n ∧ Hid (cmpL l m = cmpF (l.drop k) (m.drop k)) ∧ Hid (∃ q, wr = w.drewN q)) (fun i _ => n - (intOf i).toNat)
  case atStart => exact ⟨0, rfl, Nat.zero_le _, HR, H0⟩
  case round =>
    clear H0
    obtain ⟨k, rfl, hk, HS, HQ⟩ := hrel
    by_cases hlt : k < n
    · obtain ⟨b, o, rfl, hbs, c0⟩ := Hc.out k (by rw [← Hn.out]; exact hlt)
      obtain ⟨b', o', rfl, hbs', d0⟩ := Hc'.out k (by rw [← Hn'.out]; exact hlt)
      have HT := Lib.hid (HS.out.trans (cmpF_step l m k (by rw [← Hn.out]; exact hlt) (by rw [← Hn'.out]; exact hlt)))
      have c1 := drewC HQ.out c0
      have d1 := drewC HQ.out d0
      clear HS HR
      generalize nth l k = x at *
      generalize nth m k = y at *
      have HC0 := Lib.hid c0
      have HD0 := Lib.hid d0
      clear c0 d0
      by_cases hxy : x < y
      · have hd : decide (x < y) = true := decide_eq_true hxy
        have HV : Hid (cmpL l m = -1) := Lib.hid (by rw [HT.out, if_pos hxy])
        clear HT
        go_wp2
        go_quiet (fail)
        go_wp2
        go_ret
        exact GivesP.mk HV.out (drewK HQ.out _)
      · have hd : decide (x < y) = false := decide_eq_false hxy
        by_cases hyx : y < x
        · have hd2 : decide (y < x) = true := decide_eq_true hyx
          have HV : Hid (cmpL l m = 1) := Lib.hid (by rw [HT.out, if_neg hxy, if_pos hyx])
          clear HT
          go_wp2
          go_quiet (fail)
          have HQ2 := Lib.hid (drewK HQ.out nq)
          clear c1 d1 HQ
          generalize wr.drewN nq = wd at *
          have c1 := drewC HQ2.out HC0.out
          have d1 := drewC HQ2.out HD0.out
          go_wp2
          go_quiet (fail)
          go_wp2
          go_ret
          exact GivesP.mk HV.out (drewK HQ2.out _)
        · have hd2 : decide (y < x) = false := decide_eq_false hyx
          have HV : Hid (cmpL l m = cmpF (l.drop (k + 1)) (m.drop (k + 1))) := Lib.hid (by rw [HT.out, if_neg hxy, if_neg hyx])
          clear HT
          go_wp2
          go_quiet (fail)
          have HQ2 := Lib.hid (drewK HQ.out nq)
          clear c1 d1 HQ
          generalize wr.drewN nq = wd at *
          have c1 := drewC HQ2.out HC0.out
          have d1 := drewC HQ2.out HD0.out
          go_wp2
          go_quiet (fail)
          go_wp2
          exact ⟨⟨k + 1, by go_num, hlt, HV, Lib.hid (drewK HQ2.out _)⟩, by simp [intOf]; omega⟩
    · go_wp2
      go_ret
      exact GivesP.mk (by rw [HS.out, drop_end l k n Hn.out (by omega)]; rfl) HQ.out
end Go.Proofs.Ythkmgahbahaabaa
