/- ToCards: what the law lays for its calls: a copy of the cards, their sizes, their comparison. -/
import Derived.Test.YtnhdoppabfmonaaDoorSameCards
namespace Go.Proofs.YtnhdoppabfmonaaDoor
open Go.ChangeShapes Go.WideShapes Go.ChangeAt Go.RowKit

def aggCard (c : Card) : Value := .agg #[.string c.name, .int .i64 c.level, .int .i64 c.due]

theorem toCard_c (c : Card) (w : World) : Calls Tryd.prog 39 #[.agg #[.string c.name, .int .i64 c.level, .int .i64 c.due]] w (Gives (.agg #[.string c.name, .int .i64 c.level, .int .i64 c.due]) w) := by
  go_enter Tryd.func39, Tryd.ntmps39
  go_wp2
  go_returns
  exact ⟨rfl, by go_grown⟩

theorem eqCard_c (c d : Card) (w : World) : Calls Tryd.prog 42 #[.agg #[.string c.name, .int .i64 c.level, .int .i64 c.due], .agg #[.string d.name, .int .i64 d.level, .int .i64 d.due]] w (Gives (.bool (eqCardB c d)) w) := by
  obtain ⟨cn, cl, cd⟩ := c
  obtain ⟨dn, dl, dd⟩ := d
  have e1 := beq_bytes cn dn
  generalize h1 : decide (cn = dn) = b1 at e1
  generalize h2 : (cl == dl) = b2
  generalize h3 : (cd == dd) = b3
  have hr : Hid (eqCardB ⟨cn, cl, cd⟩ ⟨dn, dl, dd⟩ = (b1 && (b2 && b3))) := Lib.hid (by unfold eqCardB; dsimp only; rw [h1, h2, h3])
  clear h1
  cases b1 <;> cases b2 <;> cases b3
  all_goals
    go_enter Tryd.func42, Tryd.ntmps42
    go_wp2
    go_ret
    exact Gives.bool hr.out (by go_grown)

theorem eqCardS_c (v u : Value) (l m : List Card) (w : World) (hv : CardsAt w v l) (hu : CardsAt w u m) :
    Calls Tryd.prog 13 #[v, u] w (Gives (.bool (same2 eqCardB l m)) w) := by
  obtain ⟨a, n, cap, rfl, hn, hl, hm, hc⟩ := hv
  obtain ⟨a', n', cap', rfl, hn', hl', hm', hc'⟩ := hu
  have Hc := Lib.hid hc; clear hc
  have Hc' := Lib.hid hc'; clear hc'
  have Hn := Lib.hid hn; clear hn
  have Hn' := Lib.hid hn'; clear hn'
  by_cases hnm : n = n'
  · subst hnm
    go_enter Tryd.func13, Tryd.ntmps13
    go_wp2
    go_loopw [5] (fun i wr => ∃ k : Nat, i = .int .i64 k ∧ k ≤ n ∧ Hid (same2 eqCardB l m = same2 eqCardB (l.drop k) (m.drop k)) ∧ Below w.heap.size w wr) (fun i _ => n - (intOf i).toNat)
    case atStart => exact ⟨0, rfl, Nat.zero_le _, Lib.hid rfl, Below.refl _ _⟩
    case round =>
      obtain ⟨k, rfl, hk, HS, hb⟩ := hrel
      by_cases hlt : k < n
      · obtain ⟨b, o, rfl, hbs, hsz, c0, c1, c2⟩ := (Hc.out.below hb) k (by rw [← Hn.out]; exact hlt)
        obtain ⟨b', o', rfl, hbs', hsz', d0, d1, d2⟩ := (Hc'.out.below hb) k (by rw [← Hn'.out]; exact hlt)
        have HT := Lib.hid (HS.out.trans (same2_step eqCardB l m k (by rw [← Hn.out]; exact hlt) (by rw [← Hn'.out]; exact hlt)))
        clear HS
        have k0 := cell_regrown c0
        have k1 := cell_regrown c1
        have k2 := cell_regrown c2
        have g0 := cell_regrown d0
        have g1 := cell_regrown d1
        have g2 := cell_regrown d2
        clear c0 c1 c2 d0 d1 d2
        have hq := eqCard_c (nth l k) (nth m k)
        cases hE : eqCardB (nth l k) (nth m k)
        all_goals
          rw [hE] at hq
          have HV : Hid (same2 eqCardB l m = _) := HT.out
          unfold Hid at HV
          rw [hE] at HV
          have HU := Lib.hid HV
          clear HV HT hE
          go_wp2
          refine wp_region_quiet_below (by kernel_rfl) (by kernel_rfl) ?_
          repeat (first | go_big_quiet_step (exact Calls.regrown_of (hq _)) | quiet_step (exact Calls.regrown_of (hq _)))
          refine wpQuiet_nil ?_
          intro _ hw'
          obtain ⟨⟨dq, osq⟩, hw''⟩ := hw'
          subst hw''
          have hbq := below_regrown wr dq osq
          generalize Go.Sort.grow (redrawn wr dq) osq = wq at *
          have hb2 := bthen hb hbq
          go_wp2
        · go_ret
          exact Gives.bool HU.out hb2
        · exact ⟨⟨k + 1, by go_num, hlt, HU, hb2⟩, by simp [intOf]; omega⟩
      · go_wp2
        go_ret
        exact Gives.bool (by rw [HS.out, drop_end l k n Hn.out (by omega), drop_end m k n Hn'.out (by omega)]; rfl) hb
  · go_enter Tryd.func13, Tryd.ntmps13
    go_wp2
    go_ret
    exact Gives.bool (same2_len eqCardB l m (by rw [← Hn.out, ← Hn'.out]; exact hnm)) (Below.refl _ _)
end Go.Proofs.YtnhdoppabfmonaaDoor
