import Derived.Test.YtoaegfoapkmdnaaMg8
import Derived.Test.YtoaegfoapkmdnaaMg9
import Derived.Test.YtoaegfoapkmdnaaMg12
import Derived.Test.YtoaegfoapkmdnaaMg13
import Derived.Test.YtoaegfoapkmdnaaMg11
/- Match: whether a pattern matches a query, by both packages; the law FnExactMatchesQuery. -/
namespace Go.Proofs.Ytoaegfoapkmdnaa
open Go.ChangeShapes Go.WideShapes Go.ChangeAt Go.RowKit

def needF (p : List Int) : List Int → Bool
  | [] => true
  | x :: l => hasB p x && needF p l
def avoidF (p : List Int) : List Int → Bool
  | [] => true
  | x :: l => !hasB p x && avoidF p l
theorem needF_step (p l : List Int) (k : Nat) (h : k < l.length) : needF p (l.drop k) = (hasB p (nth l k) && needF p (l.drop (k + 1))) := by
  rw [drop_nth l k h]; rfl
theorem avoidF_step (p l : List Int) (k : Nat) (h : k < l.length) : avoidF p (l.drop k) = (!hasB p (nth l k) && avoidF p (l.drop (k + 1))) := by
  rw [drop_nth l k h]; rfl
def canB (q : Query) (p : List Int) : Bool := !q.canonical || same2 eqI (canL p) p
def headB (q : Query) (p : List Int) : Bool := ((p.length : Int) == q.period) && ((propsL p == q.props) && decide (maxF p 0 ≤ q.high))
def matchB (q : Query) (p : List Int) : Bool := headB q p && (canB q p && (needF p q.need && avoidF p q.avoid))
set_option maxHeartbeats 2000000 in
theorem l21Match_c (q : Query) (y z v : Value) (p : List Int) (b : Nat) (w : World) (hB : BoxIs w b [.int .i64 q.period, .int .i64 q.props, .int .i64 q.high, y, z, .bool q.canonical]) (hQ : QAt w q y z) (hv : IntsAt w v p) (ho : okPat p = true) :
    Calls Try.prog 51 #[.pointer (some ⟨b, 0, none⟩), v] w (Gives (.bool (matchB q p)) w) := by
  have ht := okPat_throws ho
  have K1 := Lib.hid (fun W x => l02Props_c v p W x ht)
  have K2 := Lib.hid (fun W x => l02High_c v p W x ht)
  have K3 := Lib.hid (fun W x => l21Canonical_c v p W x ho)
  have HPW := Lib.hid hv
  obtain ⟨va, vn, vc, rfl, hvn, -, -, -⟩ := hv
  obtain ⟨pe, pr, hi, ne, av, ca⟩ := q
  obtain ⟨hy, hz⟩ := hQ
  dsimp only at hB hy hz ⊢
  obtain ⟨ya, yn, yc, rfl, hyn, hyl, hym, hyc⟩ := hy
  obtain ⟨za, zn, zc, rfl, hzn, hzl, hzm, hzc⟩ := hz
  have HYn := Lib.hid hyn; have HYc := Lib.hid hyc; have HZn := Lib.hid hzn; have HZc := Lib.hid hzc
  clear hyn hyc hzn hzc ho ht
  have HBW := Lib.hid hB
  obtain ⟨eB, fB⟩ := hB.cells
  generalize hM : matchB ⟨pe, pr, hi, ne, av, ca⟩ p = M
  have HM0 : Hid (M = (((p.length : Int) == pe) && ((propsL p == pr) && decide (maxF p 0 ≤ hi)) && ((!ca || same2 eqI (canL p) p) && (needF p ne && avoidF p av)))) := Lib.hid (by rw [← hM]; rfl)
  rw [← hvn] at HM0
  clear hM hvn hB
  have hbW : Below w.heap.size w w := Below.refl _ _
  generalize propsL p = P at *
  generalize maxF p 0 = X at *
  generalize same2 eqI (canL p) p = cb at *
  by_cases h1 : (vn : Int) = pe
  · have e1 : ((vn : Int) != pe) = false := by simpa using h1
    by_cases h2 : P = pr
    · have e2 : (P != pr) = false := by simpa using h2
      by_cases h3 : X ≤ hi
      · have HM : Hid (M = ((!ca || cb) && (needF p ne && avoidF p av))) := Lib.hid (by rw [HM0.out, show ((vn : Int) == pe) = true by simpa using h1, show (P == pr) = true by simpa using h2, decide_eq_true h3]; rfl)
        have e3 : decide (hi < X) = false := decide_eq_false (by omega)
        clear HM0 h1 h2 h3
        have k0 := cell_regrown (HBW.out.2.1 0)
        have k1 := cell_regrown (HBW.out.2.1 1)
        have k2 := cell_regrown (HBW.out.2.1 2)
        clear eB fB
        go_wp2
        refine wp_region_quiet_below (by kernel_rfl) (by kernel_rfl) ?_
        repeat (first | go_big_quiet_step (first | exact Calls.regrown_of (K1.out _ (HPW.out.below (below_regrown _ _ _))) | exact Calls.regrown_of (K2.out _ (HPW.out.below (below_regrown _ _ _)))) | quiet_step (first | exact Calls.regrown_of (K1.out _ (HPW.out.below (below_regrown _ _ _))) | exact Calls.regrown_of (K2.out _ (HPW.out.below (below_regrown _ _ _)))))
        refine wpQuiet_nil ?_
        intro _ hw'
        obtain ⟨⟨dq, osq⟩, hw''⟩ := hw'
        subst hw''
        have hbq := below_regrown w dq osq
        generalize Go.Sort.grow (redrawn w dq) osq = wq at *
        replace HBW := Lib.hid (HBW.out.below hbq)
        replace HPW := Lib.hid (HPW.out.below hbq)
        replace HYc := Lib.hid (HYc.out.below hbq)
        replace HZc := Lib.hid (HZc.out.below hbq)
        replace hbW := hbq
        clear k0 k1 k2 hbq
        obtain ⟨eB, fB⟩ := HBW.out.cells
        go_wp2
        go_loopw [5] (fun i wr => ∃ k : Nat, i = .int .i64 k ∧ k ≤ yn ∧ Hid (needF p ne = needF p (ne.drop k)) ∧ Hid (BoxIs wr b [.int .i64 pe, .int .i64 pr, .int .i64 hi, .slice ya yn yc, .slice za zn zc, .bool ca]) ∧ Below wq.heap.size wq wr) (fun i _ => yn - (intOf i).toNat)
        case atStart => exact ⟨0, rfl, Nat.zero_le _, Lib.hid rfl, HBW, Below.refl _ _⟩
        case round =>
          obtain ⟨k, rfl, hk, HS, HB, hb⟩ := hrel
          obtain ⟨eB, fB⟩ := HB.out.cells
          by_cases hlt : k < yn
          · obtain ⟨b', o', rfl, hbs', d0⟩ := (HYc.out.below hb) k (by rw [← HYn.out]; exact hlt)
            have HT := Lib.hid (HS.out.trans (needF_step p ne k (by rw [← HYn.out]; exact hlt)))
            clear HS
            generalize nth ne k = x at *
            have hh := l00Has_c (.slice va vn vc) p x _ (HPW.out.below hb)
            cases hE : hasB p x
            · rw [hE] at hh
              have HV : Hid (M = false) := Lib.hid (by rw [HM.out, HT.out, hE]; simp)
              clear HT hE
              go_wp2_with fail
              refine hh.mono ?_
              rintro e w8 ⟨rfl, hb8⟩
              clear hh
              go_wp2
              go_ret
              exact Gives.bool HV.out (bthen (bthen hbW hb) hb8)
            · rw [hE] at hh
              have HV : Hid (needF p ne = needF p (ne.drop (k + 1))) := Lib.hid (by rw [HT.out, hE]; rfl)
              clear HT hE
              go_wp2_with fail
              refine hh.mono ?_
              rintro e w8 ⟨rfl, hb8⟩
              clear hh
              go_wp2
              exact ⟨⟨k + 1, by go_num, hlt, HV, Lib.hid (HB.out.below hb8), bthen hb hb8⟩, by simp [intOf]; omega⟩
          · have HN : Hid (needF p ne = true) := Lib.hid (by rw [HS.out, drop_end ne k yn HYn.out (by omega)]; rfl)
            clear HS
            have hbV := bthen hbW hb
            have HPV := Lib.hid (HPW.out.below hb)
            have HZV := Lib.hid (HZc.out.below hb)
            have HBV := Lib.hid HB.out
            clear HB eB fB
            obtain ⟨eB, fB⟩ := HBV.out.cells
            go_wp2
            go_loopw [6] (fun i wx => ∃ k : Nat, i = .int .i64 k ∧ k ≤ zn ∧ Hid (avoidF p av = avoidF p (av.drop k)) ∧ Hid (BoxIs wx b [.int .i64 pe, .int .i64 pr, .int .i64 hi, .slice ya yn yc, .slice za zn zc, .bool ca]) ∧ Below wr.heap.size wr wx) (fun i _ => zn - (intOf i).toNat)
            case atStart => exact ⟨0, rfl, Nat.zero_le _, Lib.hid rfl, HBV, Below.refl _ _⟩
            case round =>
              clear eB fB hk hlt
              obtain ⟨k, rfl, hk, HS, HB, hb2⟩ := hrel
              obtain ⟨eB, fB⟩ := HB.out.cells
              by_cases hlt : k < zn
              · obtain ⟨b', o', rfl, hbs', d0⟩ := (HZV.out.below hb2) k (by rw [← HZn.out]; exact hlt)
                have HT := Lib.hid (HS.out.trans (avoidF_step p av k (by rw [← HZn.out]; exact hlt)))
                clear HS
                generalize nth av k = x at *
                have hh := l00Has_c (.slice va vn vc) p x _ (HPV.out.below hb2)
                cases hE : hasB p x
                · rw [hE] at hh
                  have HV : Hid (avoidF p av = avoidF p (av.drop (k + 1))) := Lib.hid (by rw [HT.out, hE]; rfl)
                  clear HT hE
                  go_wp2_with fail
                  refine hh.mono ?_
                  rintro e w8 ⟨rfl, hb8⟩
                  clear hh
                  go_wp2
                  exact ⟨⟨k + 1, by go_num, hlt, HV, Lib.hid (HB.out.below hb8), bthen hb2 hb8⟩, by simp [intOf]; omega⟩
                · rw [hE] at hh
                  have HV : Hid (M = false) := Lib.hid (by rw [HM.out, HT.out, hE]; simp)
                  clear HT hE
                  go_wp2_with fail
                  refine hh.mono ?_
                  rintro e w8 ⟨rfl, hb8⟩
                  clear hh
                  go_wp2
                  go_ret
                  exact Gives.bool HV.out (bthen (bthen hbV hb2) hb8)
              · have HA : Hid (avoidF p av = true) := Lib.hid (by rw [HS.out, drop_end av k zn HZn.out (by omega)]; rfl)
                clear HS
                have hbE := bthen hbV hb2
                have HR : Hid (M = (!ca || cb)) := Lib.hid (by rw [HM.out, HN.out, HA.out]; simp)
                cases ca
                · have HR2 : Hid (M = true) := Lib.hid HR.out
                  go_wp2
                  go_ret
                  exact Gives.bool HR2.out hbE
                · have HR2 : Hid (M = cb) := Lib.hid HR.out
                  go_wp2_with fail
                  refine (K3.out _ (HPV.out.below hb2)).mono ?_
                  rintro e w9 ⟨rfl, hb9⟩
                  go_wp2
                  go_ret
                  exact Gives.bool HR2.out (bthen hbE hb9)
      · have e3 : decide (hi < X) = true := decide_eq_true (by omega)
        have HV : Hid (M = false) := Lib.hid (by rw [HM0.out, decide_eq_false h3]; simp)
        clear HM0 h3
        have k0 := cell_regrown (HBW.out.2.1 0)
        have k1 := cell_regrown (HBW.out.2.1 1)
        have k2 := cell_regrown (HBW.out.2.1 2)
        clear eB fB
        go_wp2
        refine wp_region_quiet_below (by kernel_rfl) (by kernel_rfl) ?_
        repeat (first | go_big_quiet_step (first | exact Calls.regrown_of (K1.out _ (HPW.out.below (below_regrown _ _ _))) | exact Calls.regrown_of (K2.out _ (HPW.out.below (below_regrown _ _ _)))) | quiet_step (first | exact Calls.regrown_of (K1.out _ (HPW.out.below (below_regrown _ _ _))) | exact Calls.regrown_of (K2.out _ (HPW.out.below (below_regrown _ _ _)))))
        refine wpQuiet_nil ?_
        intro _ hw'
        obtain ⟨⟨dq, osq⟩, hw''⟩ := hw'
        subst hw''
        have hbq := below_regrown w dq osq
        generalize Go.Sort.grow (redrawn w dq) osq = wq at *
        go_wp2
        go_ret
        exact Gives.bool HV.out hbq
    · have e2 : (P != pr) = true := by simpa using h2
      have HV : Hid (M = false) := Lib.hid (by rw [HM0.out, show (P == pr) = false by simpa using h2]; simp)
      clear HM0 h2
      have k0 := cell_regrown (HBW.out.2.1 0)
      have k1 := cell_regrown (HBW.out.2.1 1)
      have k2 := cell_regrown (HBW.out.2.1 2)
      clear eB fB
      go_wp2
      refine wp_region_quiet_below (by kernel_rfl) (by kernel_rfl) ?_
      repeat (first | go_big_quiet_step (first | exact Calls.regrown_of (K1.out _ (HPW.out.below (below_regrown _ _ _))) | exact Calls.regrown_of (K2.out _ (HPW.out.below (below_regrown _ _ _)))) | quiet_step (first | exact Calls.regrown_of (K1.out _ (HPW.out.below (below_regrown _ _ _))) | exact Calls.regrown_of (K2.out _ (HPW.out.below (below_regrown _ _ _)))))
      refine wpQuiet_nil ?_
      intro _ hw'
      obtain ⟨⟨dq, osq⟩, hw''⟩ := hw'
      subst hw''
      have hbq := below_regrown w dq osq
      generalize Go.Sort.grow (redrawn w dq) osq = wq at *
      go_wp2
      go_ret
      exact Gives.bool HV.out hbq
  · have e1 : ((vn : Int) != pe) = true := by simpa using h1
    have HV : Hid (M = false) := Lib.hid (by rw [HM0.out, show ((vn : Int) == pe) = false by simpa using h1]; simp)
    clear HM0 h1
    have k0 := cell_regrown (HBW.out.2.1 0)
    have k1 := cell_regrown (HBW.out.2.1 1)
    have k2 := cell_regrown (HBW.out.2.1 2)
    clear eB fB
    go_wp2
    refine wp_region_quiet_below (by kernel_rfl) (by kernel_rfl) ?_
    repeat (first | go_big_quiet_step (first | exact Calls.regrown_of (K1.out _ (HPW.out.below (below_regrown _ _ _))) | exact Calls.regrown_of (K2.out _ (HPW.out.below (below_regrown _ _ _)))) | quiet_step (first | exact Calls.regrown_of (K1.out _ (HPW.out.below (below_regrown _ _ _))) | exact Calls.regrown_of (K2.out _ (HPW.out.below (below_regrown _ _ _)))))
    refine wpQuiet_nil ?_
    intro _ hw'
    obtain ⟨⟨dq, osq⟩, hw''⟩ := hw'
    subst hw''
    have hbq := below_regrown w dq osq
    generalize Go.Sort.grow (redrawn w dq) osq = wq at *
    go_wp2
    go_ret
    exact Gives.bool HV.out hbq
end Go.Proofs.Ytoaegfoapkmdnaa
