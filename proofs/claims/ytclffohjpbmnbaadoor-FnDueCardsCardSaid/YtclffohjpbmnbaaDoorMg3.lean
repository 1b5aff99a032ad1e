import Derived.Test.YtclffohjpbmnbaaDoorMg2
/- SameCards: the two SameCards and the law's own comparison of cards hand back whether the two lists are equal. -/
namespace Go.Proofs.YtclffohjpbmnbaaDoor
open Go.ChangeShapes Go.WideShapes Go.ChangeAt Go.RowKit

theorem card_flds : Tryd.prog.underlying 43 = some (.struct (Tryd.prog.fieldsOf 43)) := by kernel_rfl
theorem card_stood : Tryd.prog.stoodInHeld 43 = false := by kernel_rfl
theorem card_guard : Tryd.prog.eqGuardType Tryd.prog.depth 43 = false := by kernel_rfl
theorem card_neq (x y : Card) (W : World) : (binOp .neq 43 (.agg #[.string x.name, .int .i64 x.level, .int .i64 x.due]) (.agg #[.string y.name, .int .i64 y.level, .int .i64 y.due])).run Tryd.prog W = .ok (.bool (!(eqCardB x y))) W := by
  rw [run_neq_struct, show (10000 : Nat) = 9999 + 1 from rfl, run_equalIn_agg W 9999 43 _ _ card_flds card_stood]
  simp only [Program.fieldsOf, Tryd.underlying43, eqCardB]
  go_simp
  simp only [← beq_bytes]
  by_cases h1 : x.name.toList = y.name.toList <;> by_cases h2 : x.level = y.level <;> by_cases h3 : x.due = y.due <;> simp [h1, h2, h3]

theorem sSameCards_c (v u : Value) (l m : List Card) (w : World) (hv : CardsAt w v l) (hu : CardsAt w u m) :
    Calls Tryd.prog 19 #[v, u] w (Gives (.bool (same2 eqCardB l m)) w) := by
  obtain ⟨a, n, cap, rfl, hn, hl, hm, hc⟩ := hv
  obtain ⟨a', n', cap', rfl, hn', hl', hm', hc'⟩ := hu
  have Hc := Lib.hid hc; clear hc
  have Hc' := Lib.hid hc'; clear hc'
  have Hn := Lib.hid hn; clear hn
  have Hn' := Lib.hid hn'; clear hn'
  by_cases hnm : n = n'
  · subst hnm
    go_enter Tryd.func19, Tryd.ntmps19
    go_wp2
    go_loopw [5] (fun i wr => ∃ k : Nat, i = .int .i64 k ∧ k ≤ n ∧ Hid (same2 eqCardB l m = same2 eqCardB (l.drop k) (m.drop k)) ∧ Below w.heap.size w wr) (fun i _ => n - (intOf i).toNat)
    case atStart => exact ⟨0, rfl, Nat.zero_le _, Lib.hid rfl, Below.refl _ _⟩
    case round =>
      obtain ⟨k, rfl, hk, HS, hb⟩ := hrel
      by_cases hlt : k < n
      · obtain ⟨b, o, rfl, hbs, hsz, c0, c1, c2⟩ := (Hc.out.below hb) k (by rw [← Hn.out]; exact hlt)
        obtain ⟨b', o', rfl, hbs', hsz', d0, d1, d2⟩ := (Hc'.out.below hb) k (by rw [← Hn'.out]; exact hlt)
        have HT := Lib.hid (HS.out.trans (same2_step eqCardB l m k (by rw [← Hn.out]; exact hlt) (by rw [← Hn'.out]; exact hlt)))
        clear HS
        have hq := card_neq (nth l k) (nth m k)
        have hg := card_guard
        cases hE : eqCardB (nth l k) (nth m k)
        all_goals
          rw [hE] at hq
          have HU : Hid _ := HT.out
          unfold Hid at HU
          rw [hE] at HU
          have HV := Lib.hid HU
          clear HU HT hE
          go_wp2
          go_quiet (fail)
          go_wp2
        · go_ret
          exact Gives.bool HV.out (below_drewN hb _)
        · exact ⟨⟨k + 1, by go_num, hlt, Lib.hid (by rw [HV.out]; rfl), below_drewN hb _⟩, by simp [intOf]; omega⟩
      · go_wp2
        go_ret
        exact Gives.bool (by rw [HS.out, drop_end l k n Hn.out (by omega), drop_end m k n Hn'.out (by omega)]; rfl) hb
  · go_enter Tryd.func19, Tryd.ntmps19
    go_wp2
    go_ret
    exact Gives.bool (same2_len eqCardB l m (by rw [← Hn.out, ← Hn'.out]; exact hnm)) (Below.refl _ _)
theorem iSameCards_c (v u : Value) (l m : List Card) (w : World) (hv : CardsAt w v l) (hu : CardsAt w u m) :
    Calls Tryd.prog 20 #[v, u] w (Gives (.bool (same2 eqCardB l m)) w) := by
  obtain ⟨a, n, cap, rfl, hn, hl, hm, hc⟩ := hv
  obtain ⟨a', n', cap', rfl, hn', hl', hm', hc'⟩ := hu
  have Hc := Lib.hid hc; clear hc
  have Hc' := Lib.hid hc'; clear hc'
  have Hn := Lib.hid hn; clear hn
  have Hn' := Lib.hid hn'; clear hn'
  by_cases hnm : n = n'
  · subst hnm
    go_enter Tryd.func20, Tryd.ntmps20
    go_wp2
    go_loopw [13] (fun i wr => ∃ k : Nat, i = .int .i64 k ∧ k ≤ n ∧ Hid (same2 eqCardB l m = same2 eqCardB (l.drop k) (m.drop k)) ∧ Below w.heap.size w wr) (fun i _ => n - (intOf i).toNat)
    case atStart => exact ⟨0, rfl, Nat.zero_le _, Lib.hid rfl, Below.refl _ _⟩
    case round =>
      obtain ⟨k, rfl, hk, HS, hb⟩ := hrel
      by_cases hlt : k < n
      · obtain ⟨b, o, rfl, hbs, hsz, c0, c1, c2⟩ := (Hc.out.below hb) k (by rw [← Hn.out]; exact hlt)
        obtain ⟨b', o', rfl, hbs', hsz', d0, d1, d2⟩ := (Hc'.out.below hb) k (by rw [← Hn'.out]; exact hlt)
        have HT := Lib.hid (HS.out.trans (same2_step eqCardB l m k (by rw [← Hn.out]; exact hlt) (by rw [← Hn'.out]; exact hlt)))
        clear HS
        have hq := card_neq (nth l k) (nth m k)
        have hg := card_guard
        cases hE : eqCardB (nth l k) (nth m k)
        all_goals
          rw [hE] at hq
          have HU : Hid _ := HT.out
          unfold Hid at HU
          rw [hE] at HU
          have HV := Lib.hid HU
          clear HU HT hE
          go_wp2
          go_quiet (fail)
          go_wp2
        · go_ret
          exact Gives.bool HV.out (below_drewN hb _)
        · exact ⟨⟨k + 1, by go_num, hlt, Lib.hid (by rw [HV.out]; rfl), below_drewN hb _⟩, by simp [intOf]; omega⟩
      · go_wp2
        go_ret
        exact Gives.bool (by rw [HS.out, drop_end l k n Hn.out (by omega), drop_end m k n Hn'.out (by omega)]; rfl) hb
  · go_enter Tryd.func20, Tryd.ntmps20
    go_wp2
    go_ret
    exact Gives.bool (same2_len eqCardB l m (by rw [← Hn.out, ← Hn'.out]; exact hnm)) (Below.refl _ _)
end Go.Proofs.YtclffohjpbmnbaaDoor

/- ToCards: what the law lays for its calls: a copy of the cards, their sizes, their comparison. -/
namespace Go.Proofs.YtclffohjpbmnbaaDoor
open Go.ChangeShapes Go.WideShapes Go.ChangeAt Go.RowKit

def aggCard (c : Card) : Value := .agg #[.string c.name, .int .i64 c.level, .int .i64 c.due]

end Go.Proofs.YtclffohjpbmnbaaDoor
