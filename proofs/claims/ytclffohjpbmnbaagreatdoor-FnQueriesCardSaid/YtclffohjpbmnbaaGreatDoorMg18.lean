import Derived.Test.YtclffohjpbmnbaaGreatDoorMg17
import Derived.Deep.RegionHeld3
/- Match2: whether a pattern matches a query, by the package impl; the law FnExactMatchesQuery. -/
namespace Go.Proofs.YtclffohjpbmnbaaGreatDoor
open Go.ChangeShapes Go.WideShapes Go.ChangeAt Go.RowKit

set_option maxHeartbeats 4000000 in
theorem matches_c (q : Query) (y z v : Value) (p : List Int) (w : World) (hQ : QAt w q y z) (hv : IntsAt w v p) (ho : okPat p = true) :
    Calls Tryz.prog 54 #[.agg #[.int .i64 q.period, .int .i64 q.props, .int .i64 q.high, y, z, .bool q.canonical], v] w (Gives (.bool (matchB q p)) w) := by
  have ht := okPat_throws ho
  have hlen := okPat_len ho
  have K0 := Lib.hid (fun W x => period_c v p W x)
  have K1 := Lib.hid (fun W x => propsOf_c v p W x ht)
  have K2 := Lib.hid (fun W x => highest_c v p W x ht)
  have K3 := Lib.hid (fun W x => canonical_c v p W x hlen.1 hlen.2)
  have K4 := Lib.hid (fun W u x y => iSame_c u v (canL p) p W x y)
  have HP0 := Lib.hid hv
  obtain ⟨va, vn, vc, rfl, hvn, -, -, -⟩ := hv
  rw [← hvn] at K0
  obtain ⟨pe, pr, hi, ne, av, ca⟩ := q
  obtain ⟨hy, hz⟩ := hQ
  dsimp only at hy hz ⊢
  obtain ⟨ya, yn, yc, rfl, hyn, hyl, hym, hyc⟩ := hy
  obtain ⟨za, zn, zc, rfl, hzn, hzl, hzm, hzc⟩ := hz
  have HYn := Lib.hid hyn; have HYc0 := Lib.hid hyc; have HZn := Lib.hid hzn; have HZc0 := Lib.hid hzc
  clear hyn hyc hzn hzc ho ht hlen
  generalize hM : matchB ⟨pe, pr, hi, ne, av, ca⟩ p = M
  have HM0 : Hid (M = (((p.length : Int) == pe) && ((propsL p == pr) && decide (maxF p 0 ≤ hi)) && ((!ca || same2 eqI (canL p) p) && (needF p ne && avoidF p av)))) := Lib.hid (by rw [← hM]; rfl)
  rw [← hvn] at HM0
  clear hM hvn
  generalize propsL p = P at *
  generalize maxF p 0 = X at *
  generalize same2 eqI (canL p) p = cb at *
  by_cases h1 : (vn : Int) = pe
  · have e1 : ((vn : Int) != pe) = false := by simpa using h1
    by_cases h2 : P = pr
    · have e2 : (P != pr) = false := by simpa using h2
      by_cases h3 : X ≤ hi
      · have HMM : Hid (M = ((!ca || cb) && (needF p ne && avoidF p av))) := Lib.hid (by rw [HM0.out, show ((vn : Int) == pe) = true by simpa using h1, show (P == pr) = true by simpa using h2, decide_eq_true h3]; rfl)
        have e3 : decide (hi < X) = false := decide_eq_false (by omega)
        clear HM0 h1 h2 h3
        cases ca
        · have HM : Hid (M = (needF p ne && avoidF p av)) := Lib.hid HMM.out
          go_enter Tryz.func54, Tryz.ntmps54
          go_wp2
          generalize hG : World.alloc w (.cells #[.int .i64 pe, .int .i64 pr, .int .i64 hi, .slice ya yn yc, .slice za zn zc, .bool false] 26) = w0 at *
          have hb0 : Below w.heap.size w w0 := by rw [← hG]; go_grown
          have HB0 : Hid (BoxIs w0 w.heap.size [.int .i64 pe, .int .i64 pr, .int .i64 hi, .slice ya yn yc, .slice za zn zc, .bool false]) := Lib.hid (by rw [← hG]; exact BoxIs.new _ _ _)
          clear hG
          have HPW := Lib.hid (HP0.out.below hb0)
          have k0 := cell_regrown (HB0.out.2.1 0)
          have k1 := cell_regrown (HB0.out.2.1 1)
          have k2 := cell_regrown (HB0.out.2.1 2)
          have k5 := cell_regrown (HB0.out.2.1 5)
          refine wp_region_quiet_below (by kernel_rfl) (by kernel_rfl) ?_
          repeat (first | go_big_quiet_step (first | exact Calls.regrown_of (K0.out _ (HPW.out.below (below_regrown _ _ _))) | exact Calls.regrown_of (K1.out _ (HPW.out.below (below_regrown _ _ _))) | exact Calls.regrown_of (K2.out _ (HPW.out.below (below_regrown _ _ _)))) | quiet_step (first | exact Calls.regrown_of (K0.out _ (HPW.out.below (below_regrown _ _ _))) | exact Calls.regrown_of (K1.out _ (HPW.out.below (below_regrown _ _ _))) | exact Calls.regrown_of (K2.out _ (HPW.out.below (below_regrown _ _ _)))))
          refine wpQuiet_nil ?_
          intro _ hw'
          obtain ⟨⟨dq, osq⟩, hw''⟩ := hw'
          subst hw''
          have hbq := below_regrown w0 dq osq
          generalize Go.Sort.grow (redrawn w0 dq) osq = wq at *
          clear k0 k1 k2 k5
          have HBW := Lib.hid (HB0.out.below hbq)
          replace HPW := Lib.hid (HPW.out.below hbq)
          have HYc := Lib.hid (HYc0.out.below (bthen hb0 hbq))
          have HZc := Lib.hid (HZc0.out.below (bthen hb0 hbq))
          have hbW := bthen hb0 hbq
          obtain ⟨eB, fB⟩ := HBW.out.cells
          go_wp2
          go_loopw [42] (fun i wr => ∃ k : Nat, i = .int .i64 k ∧ k ≤ yn ∧ Hid (needF p ne = needF p (ne.drop k)) ∧ Hid (BoxIs wr w.heap.size [.int .i64 pe, .int .i64 pr, .int .i64 hi, .slice ya yn yc, .slice za zn zc, .bool false]) ∧ Below wq.heap.size wq wr) (fun i _ => yn - (intOf i).toNat)
          case atStart => exact ⟨0, rfl, Nat.zero_le _, Lib.hid rfl, HBW, Below.refl _ _⟩
          case round =>
            obtain ⟨k, rfl, hk, HS, HB, hb⟩ := hrel
            obtain ⟨eB, fB⟩ := HB.out.cells
            by_cases hlt : k < yn
            · obtain ⟨b', o', rfl, hbs', d0⟩ := (HYc.out.below hb) k (by rw [← HYn.out]; exact hlt)
              have HT := Lib.hid (HS.out.trans (needF_step p ne k (by rw [← HYn.out]; exact hlt)))
              clear HS
              generalize nth ne k = x at *
              have hh := has_c (.slice va vn vc) p x _ (HPW.out.below hb)
              cases hE : hasB p x
              · rw [hE] at hh
                have HV : Hid (M = false) := Lib.hid (by rw [HM.out, HT.out, hE]; simp)
                clear HT hE
                go_wp2_with fail
                refine hh.mono ?_
                rintro e w8 ⟨rfl, hb8⟩
                clear hh
                go_wp2
                go_ret
                exact Gives.bool HV.out (bthen (bthen hbW hb) hb8)
              · rw [hE] at hh
                have HV : Hid (needF p ne = needF p (ne.drop (k + 1))) := Lib.hid (by rw [HT.out, hE]; rfl)
                clear HT hE
                go_wp2_with fail
                refine hh.mono ?_
                rintro e w8 ⟨rfl, hb8⟩
                clear hh
                go_wp2
                exact ⟨⟨k + 1, by go_num, hlt, HV, Lib.hid (HB.out.below hb8), bthen hb hb8⟩, by simp [intOf]; omega⟩
            · have HN : Hid (needF p ne = true) := Lib.hid (by rw [HS.out, drop_end ne k yn HYn.out (by omega)]; rfl)
              clear HS
              have hbV := bthen hbW hb
              have HPV := Lib.hid (HPW.out.below hb)
              have HZV := Lib.hid (HZc.out.below hb)
              have HBV := Lib.hid HB.out
              clear HB eB fB
              obtain ⟨eB, fB⟩ := HBV.out.cells
              go_wp2
              go_loopw [54] (fun i wx => ∃ k : Nat, i = .int .i64 k ∧ k ≤ zn ∧ Hid (avoidF p av = avoidF p (av.drop k)) ∧ Hid (BoxIs wx w.heap.size [.int .i64 pe, .int .i64 pr, .int .i64 hi, .slice ya yn yc, .slice za zn zc, .bool false]) ∧ Below wr.heap.size wr wx) (fun i _ => zn - (intOf i).toNat)
              case atStart => exact ⟨0, rfl, Nat.zero_le _, Lib.hid rfl, HBV, Below.refl _ _⟩
              case round =>
                clear eB fB hk hlt
                obtain ⟨k, rfl, hk, HS, HB, hb2⟩ := hrel
                obtain ⟨eB, fB⟩ := HB.out.cells
                by_cases hlt : k < zn
                · obtain ⟨b', o', rfl, hbs', d0⟩ := (HZV.out.below hb2) k (by rw [← HZn.out]; exact hlt)
                  have HT := Lib.hid (HS.out.trans (avoidF_step p av k (by rw [← HZn.out]; exact hlt)))
                  clear HS
                  generalize nth av k = x at *
                  have hh := has_c (.slice va vn vc) p x _ (HPV.out.below hb2)
                  cases hE : hasB p x
                  · rw [hE] at hh
                    have HV : Hid (avoidF p av = avoidF p (av.drop (k + 1))) := Lib.hid (by rw [HT.out, hE]; rfl)
                    clear HT hE
                    go_wp2_with fail
                    refine hh.mono ?_
                    rintro e w8 ⟨rfl, hb8⟩
                    clear hh
                    go_wp2
                    exact ⟨⟨k + 1, by go_num, hlt, HV, Lib.hid (HB.out.below hb8), bthen hb2 hb8⟩, by simp [intOf]; omega⟩
                  · rw [hE] at hh
                    have HV : Hid (M = false) := Lib.hid (by rw [HM.out, HT.out, hE]; simp)
                    clear HT hE
                    go_wp2_with fail
                    refine hh.mono ?_
                    rintro e w8 ⟨rfl, hb8⟩
                    clear hh
                    go_wp2
                    go_ret
                    exact Gives.bool HV.out (bthen (bthen hbV hb2) hb8)
                · have HA : Hid (avoidF p av = true) := Lib.hid (by rw [HS.out, drop_end av k zn HZn.out (by omega)]; rfl)
                  clear HS
                  have hbE := bthen hbV hb2
                  have HR : Hid (M = true) := Lib.hid (by rw [HM.out, HN.out, HA.out]; rfl)
                  go_wp2
                  go_ret
                  exact Gives.bool HR.out hbE
        · cases cb
          · have HV : Hid (M = false) := Lib.hid HMM.out
            go_enter Tryz.func54, Tryz.ntmps54
            go_wp2
            generalize hG : World.alloc w (.cells #[.int .i64 pe, .int .i64 pr, .int .i64 hi, .slice ya yn yc, .slice za zn zc, .bool true] 26) = w0 at *
            have hb0 : Below w.heap.size w w0 := by rw [← hG]; go_grown
            have HB0 : Hid (BoxIs w0 w.heap.size [.int .i64 pe, .int .i64 pr, .int .i64 hi, .slice ya yn yc, .slice za zn zc, .bool true]) := Lib.hid (by rw [← hG]; exact BoxIs.new _ _ _)
            clear hG
            have HPW := Lib.hid (HP0.out.below hb0)
            have k0 := cell_regrown (HB0.out.2.1 0)
            have k1 := cell_regrown (HB0.out.2.1 1)
            have k2 := cell_regrown (HB0.out.2.1 2)
            have k5 := cell_regrown (HB0.out.2.1 5)
            clear k0 k1 k2 k5
            obtain ⟨eB, fB⟩ := HB0.out.cells
            go_region_held3 (fun w' => ∀ j, w'.cell? ⟨w.heap.size, j, none⟩ = ([.int .i64 pe, .int .i64 pr, .int .i64 hi, .slice ya yn yc, .slice za zn zc, .bool true] : List Value)[j]?) (exact eB) (first | (go_at_call 79; (with_reducible refine (K0.out _ (by first | exact HPW.out.below ((Below.refl _ _).drew) | exact HPW.out)).mono ?_); rintro e x1 ⟨rfl, d1⟩; have h1' := below_of_drew d1; replace eB := (HB0.out.below h1').2.1; clear d1) | (go_at_call 96; (with_reducible refine (K1.out _ (by exact HPW.out.below h1')).mono ?_); rintro e x2 ⟨rfl, d2⟩; have h2' := bthen h1' d2; replace eB := (HB0.out.below h2').2.1; clear d2) | (go_at_call 107; (with_reducible refine (K2.out _ (by exact HPW.out.below h2')).mono ?_); rintro e x3 ⟨rfl, d3⟩; have h3' := bthen h2' d3; replace eB := (HB0.out.below h3').2.1; clear d3) | (go_at_call 81; (with_reducible refine (K3.out _ (by exact HPW.out.below h3')).mono ?_); rintro e x4 ⟨a4, n4, c4, rfl, ho4, d4⟩; have h4' := bthen h3' d4; have HO4 := Lib.hid (OwnInts.at ho4); replace eB := (HB0.out.below h4').2.1; clear d4 ho4) | (go_at_call 75; (with_reducible refine (K4.out _ _ (by exact HO4.out) (by exact HPW.out.below h4')).mono ?_); rintro e x5 ⟨rfl, d5⟩; have h5' := bthen h4' d5; replace eB := (HB0.out.below h5').2.1; clear d5))
            go_wp2
            go_ret
            exact Gives.bool HV.out (bthen hb0 h5')
          · have HM : Hid (M = (needF p ne && avoidF p av)) := Lib.hid HMM.out
            go_enter Tryz.func54, Tryz.ntmps54
            go_wp2
            generalize hG : World.alloc w (.cells #[.int .i64 pe, .int .i64 pr, .int .i64 hi, .slice ya yn yc, .slice za zn zc, .bool true] 26) = w0 at *
            have hb0 : Below w.heap.size w w0 := by rw [← hG]; go_grown
            have HB0 : Hid (BoxIs w0 w.heap.size [.int .i64 pe, .int .i64 pr, .int .i64 hi, .slice ya yn yc, .slice za zn zc, .bool true]) := Lib.hid (by rw [← hG]; exact BoxIs.new _ _ _)
            clear hG
            have HPW := Lib.hid (HP0.out.below hb0)
            have k0 := cell_regrown (HB0.out.2.1 0)
            have k1 := cell_regrown (HB0.out.2.1 1)
            have k2 := cell_regrown (HB0.out.2.1 2)
            have k5 := cell_regrown (HB0.out.2.1 5)
            clear k0 k1 k2 k5
            obtain ⟨eB, fB⟩ := HB0.out.cells
            go_region_held3 (fun w' => ∀ j, w'.cell? ⟨w.heap.size, j, none⟩ = ([.int .i64 pe, .int .i64 pr, .int .i64 hi, .slice ya yn yc, .slice za zn zc, .bool true] : List Value)[j]?) (exact eB) (first | (go_at_call 79; (with_reducible refine (K0.out _ (by first | exact HPW.out.below ((Below.refl _ _).drew) | exact HPW.out)).mono ?_); rintro e x1 ⟨rfl, d1⟩; have h1' := below_of_drew d1; replace eB := (HB0.out.below h1').2.1; clear d1) | (go_at_call 96; (with_reducible refine (K1.out _ (by exact HPW.out.below h1')).mono ?_); rintro e x2 ⟨rfl, d2⟩; have h2' := bthen h1' d2; replace eB := (HB0.out.below h2').2.1; clear d2) | (go_at_call 107; (with_reducible refine (K2.out _ (by exact HPW.out.below h2')).mono ?_); rintro e x3 ⟨rfl, d3⟩; have h3' := bthen h2' d3; replace eB := (HB0.out.below h3').2.1; clear d3) | (go_at_call 81; (with_reducible refine (K3.out _ (by exact HPW.out.below h3')).mono ?_); rintro e x4 ⟨a4, n4, c4, rfl, ho4, d4⟩; have h4' := bthen h3' d4; have HO4 := Lib.hid (OwnInts.at ho4); replace eB := (HB0.out.below h4').2.1; clear d4 ho4) | (go_at_call 75; (with_reducible refine (K4.out _ _ (by exact HO4.out) (by exact HPW.out.below h4')).mono ?_); rintro e x5 ⟨rfl, d5⟩; have h5' := bthen h4' d5; replace eB := (HB0.out.below h5').2.1; clear d5))
            clear eB fB
            have HBW := Lib.hid (HB0.out.below h5')
            replace HPW := Lib.hid (HPW.out.below h5')
            have HYc := Lib.hid (HYc0.out.below (bthen hb0 h5'))
            have HZc := Lib.hid (HZc0.out.below (bthen hb0 h5'))
            have hbW := bthen hb0 h5'
            obtain ⟨eB, fB⟩ := HBW.out.cells
            go_wp2
            go_loopw [42] (fun i wr => ∃ k : Nat, i = .int .i64 k ∧ k ≤ yn ∧ Hid (needF p ne = needF p (ne.drop k)) ∧ Hid (BoxIs wr w.heap.size [.int .i64 pe, .int .i64 pr, .int .i64 hi, .slice ya yn yc, .slice za zn zc, .bool true]) ∧ Below x5.heap.size x5 wr) (fun i _ => yn - (intOf i).toNat)
            case atStart => exact ⟨0, rfl, Nat.zero_le _, Lib.hid rfl, HBW, Below.refl _ _⟩
            case round =>
              obtain ⟨k, rfl, hk, HS, HB, hb⟩ := hrel
              obtain ⟨eB, fB⟩ := HB.out.cells
              by_cases hlt : k < yn
              · obtain ⟨b', o', rfl, hbs', d0⟩ := (HYc.out.below hb) k (by rw [← HYn.out]; exact hlt)
                have HT := Lib.hid (HS.out.trans (needF_step p ne k (by rw [← HYn.out]; exact hlt)))
                clear HS
                generalize nth ne k = x at *
                have hh := has_c (.slice va vn vc) p x _ (HPW.out.below hb)
                cases hE : hasB p x
                · rw [hE] at hh
                  have HV : Hid (M = false) := Lib.hid (by rw [HM.out, HT.out, hE]; simp)
                  clear HT hE
                  go_wp2_with fail
                  refine hh.mono ?_
                  rintro e w8 ⟨rfl, hb8⟩
                  clear hh
                  go_wp2
                  go_ret
                  exact Gives.bool HV.out (bthen (bthen hbW hb) hb8)
                · rw [hE] at hh
                  have HV : Hid (needF p ne = needF p (ne.drop (k + 1))) := Lib.hid (by rw [HT.out, hE]; rfl)
                  clear HT hE
                  go_wp2_with fail
                  refine hh.mono ?_
                  rintro e w8 ⟨rfl, hb8⟩
                  clear hh
                  go_wp2
                  exact ⟨⟨k + 1, by go_num, hlt, HV, Lib.hid (HB.out.below hb8), bthen hb hb8⟩, by simp [intOf]; omega⟩
              · have HN : Hid (needF p ne = true) := Lib.hid (by rw [HS.out, drop_end ne k yn HYn.out (by omega)]; rfl)
                clear HS
                have hbV := bthen hbW hb
                have HPV := Lib.hid (HPW.out.below hb)
                have HZV := Lib.hid (HZc.out.below hb)
                have HBV := Lib.hid HB.out
                clear HB eB fB
                obtain ⟨eB, fB⟩ := HBV.out.cells
                go_wp2
                go_loopw [54] (fun i wx => ∃ k : Nat, i = .int .i64 k ∧ k ≤ zn ∧ Hid (avoidF p av = avoidF p (av.drop k)) ∧ Hid (BoxIs wx w.heap.size [.int .i64 pe, .int .i64 pr, .int .i64 hi, .slice ya yn yc, .slice za zn zc, .bool true]) ∧ Below wr.heap.size wr wx) (fun i _ => zn - (intOf i).toNat)
                case atStart => exact ⟨0, rfl, Nat.zero_le _, Lib.hid rfl, HBV, Below.refl _ _⟩
                case round =>
                  clear eB fB hk hlt
                  obtain ⟨k, rfl, hk, HS, HB, hb2⟩ := hrel
                  obtain ⟨eB, fB⟩ := HB.out.cells
                  by_cases hlt : k < zn
                  · obtain ⟨b', o', rfl, hbs', d0⟩ := (HZV.out.below hb2) k (by rw [← HZn.out]; exact hlt)
                    have HT := Lib.hid (HS.out.trans (avoidF_step p av k (by rw [← HZn.out]; exact hlt)))
                    clear HS
                    generalize nth av k = x at *
                    have hh := has_c (.slice va vn vc) p x _ (HPV.out.below hb2)
                    cases hE : hasB p x
                    · rw [hE] at hh
                      have HV : Hid (avoidF p av = avoidF p (av.drop (k + 1))) := Lib.hid (by rw [HT.out, hE]; rfl)
                      clear HT hE
                      go_wp2_with fail
                      refine hh.mono ?_
                      rintro e w8 ⟨rfl, hb8⟩
                      clear hh
                      go_wp2
                      exact ⟨⟨k + 1, by go_num, hlt, HV, Lib.hid (HB.out.below hb8), bthen hb2 hb8⟩, by simp [intOf]; omega⟩
                    · rw [hE] at hh
                      have HV : Hid (M = false) := Lib.hid (by rw [HM.out, HT.out, hE]; simp)
                      clear HT hE
                      go_wp2_with fail
                      refine hh.mono ?_
                      rintro e w8 ⟨rfl, hb8⟩
                      clear hh
                      go_wp2
                      go_ret
                      exact Gives.bool HV.out (bthen (bthen hbV hb2) hb8)
                  · have HA : Hid (avoidF p av = true) := Lib.hid (by rw [HS.out, drop_end av k zn HZn.out (by omega)]; rfl)
                    clear HS
                    have hbE := bthen hbV hb2
                    have HR : Hid (M = true) := Lib.hid (by rw [HM.out, HN.out, HA.out]; rfl)
                    go_wp2
                    go_ret
                    exact Gives.bool HR.out hbE
      · have e3 : decide (hi < X) = true := decide_eq_true (by omega)
        have HV : Hid (M = false) := Lib.hid (by rw [HM0.out, decide_eq_false h3]; simp)
        clear HM0 h3
        go_enter Tryz.func54, Tryz.ntmps54
        go_wp2
        generalize hG : World.alloc w (.cells #[.int .i64 pe, .int .i64 pr, .int .i64 hi, .slice ya yn yc, .slice za zn zc, .bool ca] 26) = w0 at *
        have hb0 : Below w.heap.size w w0 := by rw [← hG]; go_grown
        have HB0 : Hid (BoxIs w0 w.heap.size [.int .i64 pe, .int .i64 pr, .int .i64 hi, .slice ya yn yc, .slice za zn zc, .bool ca]) := Lib.hid (by rw [← hG]; exact BoxIs.new _ _ _)
        clear hG
        have HPW := Lib.hid (HP0.out.below hb0)
        have k0 := cell_regrown (HB0.out.2.1 0)
        have k1 := cell_regrown (HB0.out.2.1 1)
        have k2 := cell_regrown (HB0.out.2.1 2)
        have k5 := cell_regrown (HB0.out.2.1 5)
        clear HB0
        refine wp_region_quiet_below (by kernel_rfl) (by kernel_rfl) ?_
        repeat (first | go_big_quiet_step (first | exact Calls.regrown_of (K0.out _ (HPW.out.below (below_regrown _ _ _))) | exact Calls.regrown_of (K1.out _ (HPW.out.below (below_regrown _ _ _))) | exact Calls.regrown_of (K2.out _ (HPW.out.below (below_regrown _ _ _)))) | quiet_step (first | exact Calls.regrown_of (K0.out _ (HPW.out.below (below_regrown _ _ _))) | exact Calls.regrown_of (K1.out _ (HPW.out.below (below_regrown _ _ _))) | exact Calls.regrown_of (K2.out _ (HPW.out.below (below_regrown _ _ _)))))
        refine wpQuiet_nil ?_
        intro _ hw'
        obtain ⟨⟨dq, osq⟩, hw''⟩ := hw'
        subst hw''
        have hbq := below_regrown w0 dq osq
        generalize Go.Sort.grow (redrawn w0 dq) osq = wq at *
        go_wp2
        go_ret
        exact Gives.bool HV.out (bthen hb0 hbq)
    · have e2 : (P != pr) = true := by simpa using h2
      have HV : Hid (M = false) := Lib.hid (by rw [HM0.out, show (P == pr) = false by simpa using h2]; simp)
      clear HM0 h2
      go_enter Tryz.func54, Tryz.ntmps54
      go_wp2
      generalize hG : World.alloc w (.cells #[.int .i64 pe, .int .i64 pr, .int .i64 hi, .slice ya yn yc, .slice za zn zc, .bool ca] 26) = w0 at *
      have hb0 : Below w.heap.size w w0 := by rw [← hG]; go_grown
      have HB0 : Hid (BoxIs w0 w.heap.size [.int .i64 pe, .int .i64 pr, .int .i64 hi, .slice ya yn yc, .slice za zn zc, .bool ca]) := Lib.hid (by rw [← hG]; exact BoxIs.new _ _ _)
      clear hG
      have HPW := Lib.hid (HP0.out.below hb0)
      have k0 := cell_regrown (HB0.out.2.1 0)
      have k1 := cell_regrown (HB0.out.2.1 1)
      have k2 := cell_regrown (HB0.out.2.1 2)
      have k5 := cell_regrown (HB0.out.2.1 5)
      clear HB0
      refine wp_region_quiet_below (by kernel_rfl) (by kernel_rfl) ?_
      repeat (first | go_big_quiet_step (first | exact Calls.regrown_of (K0.out _ (HPW.out.below (below_regrown _ _ _))) | exact Calls.regrown_of (K1.out _ (HPW.out.below (below_regrown _ _ _))) | exact Calls.regrown_of (K2.out _ (HPW.out.below (below_regrown _ _ _)))) | quiet_step (first | exact Calls.regrown_of (K0.out _ (HPW.out.below (below_regrown _ _ _))) | exact Calls.regrown_of (K1.out _ (HPW.out.below (below_regrown _ _ _))) | exact Calls.regrown_of (K2.out _ (HPW.out.below (below_regrown _ _ _)))))
      refine wpQuiet_nil ?_
      intro _ hw'
      obtain ⟨⟨dq, osq⟩, hw''⟩ := hw'
      subst hw''
      have hbq := below_regrown w0 dq osq
      generalize Go.Sort.grow (redrawn w0 dq) osq = wq at *
      go_wp2
      go_ret
      exact Gives.bool HV.out (bthen hb0 hbq)
  · have e1 : ((vn : Int) != pe) = true := by simpa using h1
    have HV : Hid (M = false) := Lib.hid (by rw [HM0.out, show ((vn : Int) == pe) = false by simpa using h1]; simp)
    clear HM0 h1
    go_enter Tryz.func54, Tryz.ntmps54
    go_wp2
    generalize hG : World.alloc w (.cells #[.int .i64 pe, .int .i64 pr, .int .i64 hi, .slice ya yn yc, .slice za zn zc, .bool ca] 26) = w0 at *
    have hb0 : Below w.heap.size w w0 := by rw [← hG]; go_grown
    have HB0 : Hid (BoxIs w0 w.heap.size [.int .i64 pe, .int .i64 pr, .int .i64 hi, .slice ya yn yc, .slice za zn zc, .bool ca]) := Lib.hid (by rw [← hG]; exact BoxIs.new _ _ _)
    clear hG
    have HPW := Lib.hid (HP0.out.below hb0)
    have k0 := cell_regrown (HB0.out.2.1 0)
    have k1 := cell_regrown (HB0.out.2.1 1)
    have k2 := cell_regrown (HB0.out.2.1 2)
    have k5 := cell_regrown (HB0.out.2.1 5)
    clear HB0
    refine wp_region_quiet_below (by kernel_rfl) (by kernel_rfl) ?_
    repeat (first | go_big_quiet_step (first | exact Calls.regrown_of (K0.out _ (HPW.out.below (below_regrown _ _ _))) | exact Calls.regrown_of (K1.out _ (HPW.out.below (below_regrown _ _ _))) | exact Calls.regrown_of (K2.out _ (HPW.out.below (below_regrown _ _ _)))) | quiet_step (first | exact Calls.regrown_of (K0.out _ (HPW.out.below (below_regrown _ _ _))) | exact Calls.regrown_of (K1.out _ (HPW.out.below (below_regrown _ _ _))) | exact Calls.regrown_of (K2.out _ (HPW.out.below (below_regrown _ _ _)))))
    refine wpQuiet_nil ?_
    intro _ hw'
    obtain ⟨⟨dq, osq⟩, hw''⟩ := hw'
    subst hw''
    have hbq := below_regrown w0 dq osq
    generalize Go.Sort.grow (redrawn w0 dq) osq = wq at *
    go_wp2
    go_ret
    exact Gives.bool HV.out (bthen hb0 hbq)
def mqB (q : Query) (p : List Int) : Bool := okQueryB q && (okPat p && matchB q p)
end Go.Proofs.YtclffohjpbmnbaaGreatDoor

/- Match3: the law FnExactMatchesQuery. -/
namespace Go.Proofs.YtclffohjpbmnbaaGreatDoor
open Go.ChangeShapes Go.WideShapes Go.ChangeAt Go.RowKit

set_option maxHeartbeats 2000000 in
theorem sMatchesQuery_c (q : Query) (y z v : Value) (p : List Int) (w : World) (hQ : QAt w q y z) (hv : IntsAt w v p) :
    Calls Tryz.prog 17 #[.agg #[.int .i64 q.period, .int .i64 q.props, .int .i64 q.high, y, z, .bool q.canonical], v] w (Gives (.bool (mqB q p)) w) := by
  have HK1 := Lib.hid (fun b W x y' => l21Ok_c q y z b W x y')
  have HK2 := Lib.hid (fun W x => l02Ok_c v p W x)
  have HK3 := Lib.hid (fun b W x y' h ho => l21Match_c q y z v p b W x y' h ho)
  have HQ := Lib.hid hQ
  have HP := Lib.hid hv
  have HM := Lib.hid (show mqB q p = (okQueryB q && (okPat p && matchB q p)) from rfl)
  clear hQ hv
  generalize matchB q p = m3 at *
  generalize okQueryB q = m1 at *
  generalize hm2 : okPat p = m2 at *
  cases m1
  · have HR : Hid (mqB q p = false) := Lib.hid HM.out
    go_enter Tryz.func17, Tryz.ntmps17
    go_wp2_with fail
    refine (HK1.out _ _ (BoxIs.new w _ _) (HQ.out.below (by go_grown))).mono ?_
    rintro e w1 ⟨rfl, hb1⟩
    go_wp2
    go_ret
    exact Gives.bool HR.out (bthen (by go_grown : Below w.heap.size w _) hb1)
  · cases m2
    · have HR : Hid (mqB q p = false) := Lib.hid HM.out
      clear hm2
      go_enter Tryz.func17, Tryz.ntmps17
      go_wp2_with fail
      refine (HK1.out _ _ (BoxIs.new w _ _) (HQ.out.below (by go_grown))).mono ?_
      rintro e w1 ⟨rfl, hb1⟩
      have hb := bthen (by go_grown : Below w.heap.size w _) hb1
      go_wp2_with fail
      refine (HK2.out _ (HP.out.below hb)).mono ?_
      rintro e w2 ⟨rfl, hb2⟩
      go_wp2
      go_ret
      exact Gives.bool HR.out (bthen hb hb2)
    · have HR : Hid (mqB q p = m3) := Lib.hid HM.out
      have HO := Lib.hid hm2
      clear hm2
      go_enter Tryz.func17, Tryz.ntmps17
      go_wp2_with fail
      refine (HK1.out _ _ (BoxIs.new w _ _) (HQ.out.below (by go_grown))).mono ?_
      rintro e w1 ⟨rfl, hb1⟩
      have hb := bthen (by go_grown : Below w.heap.size w _) hb1
      have HB := Lib.hid ((BoxIs.new w _ _).below hb1)
      go_wp2_with fail
      refine (HK2.out _ (HP.out.below hb)).mono ?_
      rintro e w2 ⟨rfl, hb2⟩
      have hb' := bthen hb hb2
      go_wp2_with fail
      refine (HK3.out _ _ (HB.out.below hb2) (HQ.out.below hb') (HP.out.below hb') trivial).mono ?_
      rintro e w3 ⟨rfl, hb3⟩
      go_wp2
      go_ret
      exact Gives.bool HR.out (bthen hb' hb3)
set_option maxHeartbeats 2000000 in
theorem iMatchesQuery_c (q : Query) (y z v : Value) (p : List Int) (w : World) (hQ : QAt w q y z) (hv : IntsAt w v p) :
    Calls Tryz.prog 7 #[.agg #[.int .i64 q.period, .int .i64 q.props, .int .i64 q.high, y, z, .bool q.canonical], v] w (Gives (.bool (mqB q p)) w) := by
  have HK1 := Lib.hid (fun W x => iValidQuery_c q y z W x)
  have HK2 := Lib.hid (fun W x => validPattern_c v p W x)
  have HK3 := Lib.hid (fun W x h ho => matches_c q y z v p W x h ho)
  have HQ := Lib.hid hQ
  have HP := Lib.hid hv
  have HM := Lib.hid (show mqB q p = (okQueryB q && (okPat p && matchB q p)) from rfl)
  clear hQ hv
  generalize matchB q p = m3 at *
  generalize okQueryB q = m1 at *
  generalize hm2 : okPat p = m2 at *
  cases m1
  · have HR : Hid (mqB q p = false) := Lib.hid HM.out
    go_enter Tryz.func7, Tryz.ntmps7
    go_wp2_with fail
    refine (HK1.out _ (HQ.out.below (by go_grown))).mono ?_
    rintro e w1 ⟨rfl, hb1⟩
    go_wp2
    go_ret
    exact Gives.bool HR.out (bthen (by go_grown : Below w.heap.size w _) hb1)
  · cases m2
    · have HR : Hid (mqB q p = false) := Lib.hid HM.out
      clear hm2
      go_enter Tryz.func7, Tryz.ntmps7
      go_wp2_with fail
      refine (HK1.out _ (HQ.out.below (by go_grown))).mono ?_
      rintro e w1 ⟨rfl, hb1⟩
      have hb := bthen (by go_grown : Below w.heap.size w _) hb1
      go_wp2_with fail
      refine (HK2.out _ (HP.out.below hb)).mono ?_
      rintro e w2 ⟨rfl, hb2⟩
      go_wp2
      go_ret
      exact Gives.bool HR.out (bthen hb hb2)
    · have HR : Hid (mqB q p = m3) := Lib.hid HM.out
      have HO := Lib.hid hm2
      clear hm2
      go_enter Tryz.func7, Tryz.ntmps7
      go_wp2_with fail
      refine (HK1.out _ (HQ.out.below (by go_grown))).mono ?_
      rintro e w1 ⟨rfl, hb1⟩
      have hb := bthen (by go_grown : Below w.heap.size w _) hb1
      have HB := Lib.hid ((BoxIs.new w [.int .i64 q.period, .int .i64 q.props, .int .i64 q.high, y, z, .bool q.canonical] 26).below hb1)
      go_wp2_with fail
      refine (HK2.out _ (HP.out.below hb)).mono ?_
      rintro e w2 ⟨rfl, hb2⟩
      have hb' := bthen hb hb2
      obtain ⟨e0, f0⟩ := (HB.out.below hb2).cells
      go_wp2_with fail
      refine (HK3.out _ (HQ.out.below hb') (HP.out.below hb') trivial).mono ?_
      rintro e w3 ⟨rfl, hb3⟩
      go_wp2
      go_ret
      exact Gives.bool HR.out (bthen hb' hb3)
end Go.Proofs.YtclffohjpbmnbaaGreatDoor
