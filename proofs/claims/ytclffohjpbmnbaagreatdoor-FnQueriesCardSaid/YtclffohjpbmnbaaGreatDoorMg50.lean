import Derived.Test.YtclffohjpbmnbaaGreatDoorMg38
import Derived.Test.YtclffohjpbmnbaaGreatDoorMg48
import Derived.Test.YtclffohjpbmnbaaGreatDoorMg35
import Derived.Test.YtclffohjpbmnbaaGreatDoorMg49
import Derived.Deep.RegionHeld3
/- QTx: the text of a query, by both packages. -/
namespace Go.Proofs.YtclffohjpbmnbaaGreatDoor
open Go.ChangeShapes Go.WideShapes Go.ChangeAt Go.RowKit

theorem qNeed_nil {l : List Int} (h : l = []) : strOfNums (qNeed l) = ByteArray.empty := by unfold qNeed; rw [if_pos h]; rfl
theorem qNeed_cons {l : List Int} (h : l ≠ []) : strOfNums (qNeed l) = (⟨#[32, 43]⟩ : ByteArray) ++ strOfNums (l.map hexV) := by
  unfold qNeed; rw [if_neg h, show (32 :: 43 :: l.map hexV : List Int) = [32, 43] ++ l.map hexV from rfl, strOf_append]; rfl
theorem qAvoid_nil {l : List Int} (h : l = []) : strOfNums (qAvoid l) = ByteArray.empty := by unfold qAvoid; rw [if_pos h]; rfl
theorem qAvoid_cons {l : List Int} (h : l ≠ []) : strOfNums (qAvoid l) = (⟨#[32, 45]⟩ : ByteArray) ++ strOfNums (l.map hexV) := by
  unfold qAvoid; rw [if_neg h, show (32 :: 45 :: l.map hexV : List Int) = [32, 45] ++ l.map hexV from rfl, strOf_append]; rfl
theorem qCanon_yes : strOfNums (qCanon true) = (⟨#[32, 99, 97, 110, 111, 110, 105, 99, 97, 108]⟩ : ByteArray) := rfl
theorem qCanon_no : strOfNums (qCanon false) = ByteArray.empty := rfl
theorem qCh_str (q : Query) : strOfNums (qCh q) = strOfNums (qHead q) ++ strOfNums (qNeed q.need) ++ strOfNums (qAvoid q.avoid) ++ strOfNums (qCanon q.canonical) := by
  unfold qCh; rw [strOf_append, strOf_append, strOf_append]
theorem hex_size (l : List Int) : (strOfNums (l.map hexV)).size = l.length := by rw [strOfNums_size, List.length_map]
theorem ints_lone (w : World) (x : Int) (b : Nat) (hb : b = w.heap.size) (t : TypeId) : IntsAt (w.alloc (.cells #[.int .i64 x] t)) (.slice (some ⟨b, 0, none⟩) 1 1) [x] := by
  subst hb
  refine ⟨some ⟨w.heap.size, 0, none⟩, 1, 1, rfl, rfl, Nat.le_refl _, by decide, fun i hi => ?_⟩
  obtain rfl : i = 0 := by simpa using hi
  exact ⟨w.heap.size, 0, rfl, by simp, by rw [World.cell?_alloc_at _ _ _ _ rfl]; rfl⟩
theorem qbelow_of_drew {w w' : World} (h : Below w.drew.heap.size w.drew w') : Below w.heap.size w w' := ((Below.refl w.heap.size w).drew).trans h
theorem qbelow_of_alloc {w w' : World} {o : Obj} (h : Below (w.alloc o).drew.heap.size (w.alloc o).drew w') : Below w.heap.size w w' := bthen (((Below.refl w.heap.size w).alloc (Nat.le_refl _) o).drew) h
set_option maxRecDepth 100000 in
set_option maxHeartbeats 4000000 in
theorem iQueryText_c (q : Query) (y z : Value) (w : World) (hQ : QAt w q y z) (ht : TabW w) :
    Calls Tryz.prog 12 #[.agg #[.int .i64 q.period, .int .i64 q.props, .int .i64 q.high, y, z, .bool q.canonical]] w (Gives (.string (qTextB q)) w) := by
  have HV := Lib.hid (fun W x => iValidQuery_c q y z W x)
  have HQ := Lib.hid hQ
  cases hok : okQueryB q
  · have HR := Lib.hid (qTextB_no hok)
    rw [hok] at HV
    clear hok ht
    go_enter Tryz.func12, Tryz.ntmps12
    go_wp2_with fail
    refine (HV.out _ (HQ.out.below (by go_grown))).mono ?_
    rintro e w1 ⟨rfl, hb1⟩
    have hb := bthen (by go_grown : Below w.heap.size w _) hb1
    go_wp2
    go_ret
    exact dstr HR.out hb
  · rw [hok] at HV
    obtain ⟨hp, hr, hh⟩ := okQ_in hok
    have HNd := Lib.hid (fun v W x => hexDigits_c v q.need W x (okQ_need hok).1 (by have := (okQ_need hok).2; omega))
    have HAv := Lib.hid (fun v W x => hexDigits_c v q.avoid W x (okQ_avoid hok).1 (by have := (okQ_avoid hok).2; omega))
    have HHi := Lib.hid (fun v W x => hexDigits_c v [q.high] W x (by intro x hx; simp at hx; omega) (by simp))
    have hsn : (strOfNums (q.need.map hexV)).size ≤ 16 := by rw [hex_size]; exact (okQ_need hok).2
    have hsa : (strOfNums (q.avoid.map hexV)).size ≤ 16 := by rw [hex_size]; exact (okQ_avoid hok).2
    have hsh : (strOfNums ([q.high].map hexV)).size ≤ 1 := by rw [hex_size]; simp
    have hsp := decB_size q.period (by omega) (by omega)
    have hsr := decB_size q.props (by omega) (by omega)
    have HTab := Lib.hid ht
    have HD1 := Lib.hid (fun W x => decimal_c q.period (by omega) (by omega) W x)
    have HD2 := Lib.hid (fun W x => decimal_c q.props (by omega) (by omega) W x)
    have HR : Hid (qTextB q = strOfNums (qHead q) ++ strOfNums (qNeed q.need) ++ strOfNums (qAvoid q.avoid) ++ strOfNums (qCanon q.canonical)) := Lib.hid (by rw [qTextB_yes hok, qCh_str])
    have HH : Hid (decB q.period ++ (⟨#[32]⟩ : ByteArray) ++ decB q.props ++ (⟨#[32]⟩ : ByteArray) ++ strOfNums ([q.high].map hexV) = strOfNums (qHead q)) := Lib.hid (qHead_str hok)
    have HN0 := Lib.hid (fun h => qNeed_nil (l := q.need) h)
    have HN1 := Lib.hid (fun h => qNeed_cons (l := q.need) h)
    have HA0 := Lib.hid (fun h => qAvoid_nil (l := q.avoid) h)
    have HA1 := Lib.hid (fun h => qAvoid_cons (l := q.avoid) h)
    have HLn : Hid (q.need.length = 0 ↔ q.need = []) := Lib.hid List.length_eq_zero_iff
    have HLa : Hid (q.avoid.length = 0 ↔ q.avoid = []) := Lib.hid List.length_eq_zero_iff
    have hQn := HQ.out.need
    have hQa := HQ.out.avoid
    obtain ⟨ya, yn, yc, rfl, hyn, -, -, -⟩ := hQn
    obtain ⟨za, zn, zc, rfl, hzn, -, -, -⟩ := hQa
    rw [← hyn] at HLn
    rw [← hzn] at HLa
    have HQn := Lib.hid HQ.out.need
    have HQa := Lib.hid HQ.out.avoid
    clear hok ht hp hr hh hyn hzn hQ
    generalize decB q.period = dp at *
    generalize decB q.props = dr at *
    generalize strOfNums ([q.high].map hexV) = dh at *
    generalize strOfNums (q.need.map hexV) = dn at *
    generalize strOfNums (q.avoid.map hexV) = da at *
    generalize strOfNums (qNeed q.need) = tn at *
    generalize strOfNums (qAvoid q.avoid) = ta at *
    generalize strOfNums (qHead q) = t0 at *
    have HHs : Hid (t0.size ≤ 43) := Lib.hid (by
      rw [← HH.out]
      have e1 : (⟨#[32]⟩ : ByteArray).size = 1 := rfl
      simp only [ByteArray.size_append, e1]; omega)
    have hq1 : ¬ 9223372036854775807 < dp.size + 1 := by omega
    have hq2 : ¬ 9223372036854775807 < dp.size + 1 + dr.size := by omega
    have hq3 : ¬ 9223372036854775807 < dp.size + 1 + dr.size + 1 := by omega
    have hq4 : ¬ 9223372036854775807 < dp.size + 1 + dr.size + 1 + dh.size := by omega
    go_enter Tryz.func12, Tryz.ntmps12
    go_wp2_with fail
    refine (HV.out _ (HQ.out.below (by go_grown))).mono ?_
    rintro e w1 ⟨rfl, hb1⟩
    have hb := bthen (by go_grown : Below w.heap.size w _) hb1
    have HB := Lib.hid ((BoxIs.new w [.int .i64 q.period, .int .i64 q.props, .int .i64 q.high, .slice ya yn yc, .slice za zn zc, .bool q.canonical] 26).below hb1)
    clear hb1
    have eB := HB.out.2.1
    go_wp2
    go_region_held3 (fun w' => ∀ j, w'.cell? ⟨w.heap.size, j, none⟩ = ([.int .i64 q.period, .int .i64 q.props, .int .i64 q.high, .slice ya yn yc, .slice za zn zc, .bool q.canonical] : List Value)[j]?) (first | exact eB | exact (HB.out.below (hcur.alloc hcur.size _)).2.1 | exact (HB.out.below (((Below.refl _ _).alloc (Nat.le_refl _) _).drew)).2.1) (first | (go_at_call 60; (with_reducible refine (HHi.out _ _ (by first | exact ints_lone _ _ _ rfl _ | exact (ints_lone _ _ _ rfl _).below d2 | exact (((ints_lone _ _ _ rfl _).below ((Below.refl _ _).drew)).below d1).below d2)).mono ?_); rintro e x3 ⟨rfl, d3⟩; have hcur : Below w1.heap.size w1 x3 := (by first | exact bthen hcur d3 | exact bthen (hcur.alloc hcur.size _) d3); replace eB := (HB.out.below hcur).2.1) | (go_at_call 59; (with_reducible refine (HD1.out _ (by first | exact HTab.out.below (hb.drew) | exact HTab.out.below ((hb.alloc hb.size _).drew))).mono ?_); rintro e x1 ⟨rfl, d1⟩; have hcur : Below w1.heap.size w1 x1 := (by first | exact qbelow_of_drew d1 | exact qbelow_of_alloc d1); replace eB := (HB.out.below hcur).2.1) | (go_at_call 59; (with_reducible refine (HD2.out _ (by first | exact HTab.out.below (bthen hb hcur) | exact HTab.out.below (bthen hb (hcur.alloc hcur.size _)))).mono ?_); rintro e x2 ⟨rfl, d2⟩; have hcur : Below w1.heap.size w1 x2 := (by first | exact bthen hcur d2 | exact bthen (hcur.alloc hcur.size _) d2); replace eB := (HB.out.below hcur).2.1))
    all_goals
      have hbz := bthen hb hcur
      have HBz := Lib.hid (HB.out.below hcur)
      generalize hT : dp ++ (⟨#[32]⟩ : ByteArray) ++ dr ++ (⟨#[32]⟩ : ByteArray) ++ dh = T at *
      obtain rfl : T = t0 := HH.out
      have hTs := HHs.out
      clear hT HB HD1 HD2 HHi HV hcur eB hq1 hq2 hq3 hq4 HH HHs d3
      have eB := HBz.out.2.1
      generalize q.canonical = ca at *
      cases ca
      all_goals
        by_cases hy0 : yn = 0
        · have HTn := Lib.hid (HN0.out (HLn.out.1 hy0))
          subst hy0
          by_cases hz0 : zn = 0
          · have HTa := Lib.hid (HA0.out (HLa.out.1 hz0))
            subst hz0
            clear HN0 HN1 HA0 HA1 HLn HLa
            go_wp2
            go_ret
            exact dstr (by rw [HR.out, HTn.out, HTa.out]; simp [qCanon_yes, qCanon_no]) hbz
          · have HTa := Lib.hid (HA1.out (fun h => hz0 (HLa.out.2 h)))
            have hz1 : 0 < zn := by omega
            clear HN0 HN1 HA0 HA1 HLn HLa hz0
            go_wp2_with fail
            refine (HAv.out _ _ (HQa.out.below hbz)).mono ?_
            rintro e w4 ⟨rfl, hbn⟩
            have hbY := bthen hbz hbn
            have HBY := Lib.hid (HBz.out.below hbn)
            replace eB := HBY.out.2.1
            clear hbn
            go_wp2
            go_ret
            exact dstr (by rw [HR.out, HTn.out, HTa.out]; simp [qCanon_yes, qCanon_no]) hbY
        · have HTn := Lib.hid (HN1.out (fun h => hy0 (HLn.out.2 h)))
          have hy1 : 0 < yn := by omega
          by_cases hz0 : zn = 0
          · have HTa := Lib.hid (HA0.out (HLa.out.1 hz0))
            subst hz0
            clear HN0 HN1 HA0 HA1 HLn HLa hy0
            go_wp2_with fail
            refine (HNd.out _ _ (HQn.out.below hbz)).mono ?_
            rintro e w4 ⟨rfl, hbn⟩
            have hbY := bthen hbz hbn
            have HBY := Lib.hid (HBz.out.below hbn)
            replace eB := HBY.out.2.1
            clear hbn
            go_wp2
            go_ret
            exact dstr (by rw [HR.out, HTn.out, HTa.out]; simp [qCanon_yes, qCanon_no]) hbY
          · have HTa := Lib.hid (HA1.out (fun h => hz0 (HLa.out.2 h)))
            have hz1 : 0 < zn := by omega
            clear HN0 HN1 HA0 HA1 HLn HLa hy0 hz0
            go_wp2_with fail
            refine (HNd.out _ _ (HQn.out.below hbz)).mono ?_
            rintro e w4 ⟨rfl, hbn⟩
            have hbY := bthen hbz hbn
            have HBY := Lib.hid (HBz.out.below hbn)
            replace eB := HBY.out.2.1
            clear hbn
            go_wp2_with fail
            refine (HAv.out _ _ (HQa.out.below hbY)).mono ?_
            rintro e w5 ⟨rfl, hbn⟩
            have hbZ := bthen hbY hbn
            have HBZ := Lib.hid (HBY.out.below hbn)
            replace eB := HBZ.out.2.1
            clear hbn
            go_wp2
            go_ret
            exact dstr (by rw [HR.out, HTn.out, HTa.out]; simp [qCanon_yes, qCanon_no]) hbZ
theorem l04Digit_c (t : Int) (w : World) (h0 : 0 ≤ t) (h15 : t ≤ 15) : Calls Tryz.prog 125 #[.int .i64 t] w (Gives (.string (strOfNums ([t].map hexV))) w) := by
  obtain ⟨x, rfl⟩ : ∃ x : Nat, t = (x : Int) := ⟨t.toNat, by omega⟩
  have HC := Lib.hid (hexCut x (by omega))
  have hx1 : x + 1 ≤ 16 := by omega
  have hw1 : IntKind.i64.wrap ((x : Int) + 1) = (x : Int) + 1 := IntWalk.i64_in _ (by omega)
  have hsz : (⟨#[48, 49, 50, 51, 52, 53, 54, 55, 56, 57, 97, 98, 99, 100, 101, 102]⟩ : ByteArray).size = 16 := rfl
  go_enter Tryz.func125, Tryz.ntmps125
  generalize (⟨#[48, 49, 50, 51, 52, 53, 54, 55, 56, 57, 97, 98, 99, 100, 101, 102]⟩ : ByteArray) = D at *
  have hxD : x + 1 ≤ D.size := by omega
  go_wp2
  go_ret
  exact dstr HC.out.symm (by go_grown)
def TxQ (q : Query) : Prop := (0 ≤ q.period ∧ q.period ≤ 15) ∧ (0 ≤ q.props ∧ q.props ≤ 15) ∧ (0 ≤ q.high ∧ q.high ≤ 15) ∧ ((∀ u ∈ q.need, 0 ≤ u ∧ u ≤ 15) ∧ q.need.length ≤ 16) ∧ ((∀ u ∈ q.avoid, 0 ≤ u ∧ u ≤ 15) ∧ q.avoid.length ≤ 16)
theorem qHead_strS {q : Query} (h0 : 0 ≤ q.high) (h1 : q.high ≤ 15) : decB q.period ++ (⟨#[32]⟩ : ByteArray) ++ decB q.props ++ (⟨#[32]⟩ : ByteArray) ++ strOfNums [hexV q.high] = strOfNums (qHead q) := by
  have hv := hexV_bd h0 h1
  have e1 : chars (⟨#[32]⟩ : ByteArray) = [32] := rfl
  rw [← strOf_chars (decB q.period ++ (⟨#[32]⟩ : ByteArray) ++ decB q.props ++ (⟨#[32]⟩ : ByteArray) ++ strOfNums [hexV q.high])]
  simp only [chars_append, e1]
  rw [chars_strOf (l := [hexV q.high]) (by intro x hx; simp at hx; omega)]
  unfold qHead; simp
set_option maxRecDepth 100000 in
set_option maxHeartbeats 4000000 in
theorem l21TextS_c (q : Query) (y z : Value) (b : Nat) (w : World) (hB : BoxIs w b [.int .i64 q.period, .int .i64 q.props, .int .i64 q.high, y, z, .bool q.canonical]) (hQ : QAt w q y z) (hok : TxQ q) :
    Calls Tryz.prog 66 #[.pointer (some ⟨b, 0, none⟩)] w (Gives (.string (strOfNums (qCh q))) w) := by
  have HQ := Lib.hid hQ
  obtain ⟨hp, hr, hh, hokn, hoka⟩ := hok
  have HNd := Lib.hid (fun v W x => l02Text_c v q.need W x hokn.1 (by have := hokn.2; omega))
  have HAv := Lib.hid (fun v W x => l02Text_c v q.avoid W x hoka.1 (by have := hoka.2; omega))
  have HHi := Lib.hid (fun W => l04Digit_c q.high W (by omega) (by omega))
  have hsn : (strOfNums (q.need.map hexV)).size ≤ 16 := by rw [hex_size]; exact hokn.2
  have hsa : (strOfNums (q.avoid.map hexV)).size ≤ 16 := by rw [hex_size]; exact hoka.2
  have hsh : (strOfNums ([q.high].map hexV)).size ≤ 1 := by rw [hex_size]; simp
  have hsp := decB_size q.period (by omega) (by omega)
  have hsr := decB_size q.props (by omega) (by omega)
  have HD1 := Lib.hid (fun W => l01Dec_c q.period (by omega) (by omega) W)
  have HD2 := Lib.hid (fun W => l01Dec_c q.props (by omega) (by omega) W)
  have HR := Lib.hid (qCh_str q)
  have HH : Hid (decB q.period ++ (⟨#[32]⟩ : ByteArray) ++ decB q.props ++ (⟨#[32]⟩ : ByteArray) ++ strOfNums ([q.high].map hexV) = strOfNums (qHead q)) := Lib.hid (qHead_strS hh.1 hh.2)
  have HN0 := Lib.hid (fun h => qNeed_nil (l := q.need) h)
  have HN1 := Lib.hid (fun h => qNeed_cons (l := q.need) h)
  have HA0 := Lib.hid (fun h => qAvoid_nil (l := q.avoid) h)
  have HA1 := Lib.hid (fun h => qAvoid_cons (l := q.avoid) h)
  have HLn : Hid (q.need.length = 0 ↔ q.need = []) := Lib.hid List.length_eq_zero_iff
  have HLa : Hid (q.avoid.length = 0 ↔ q.avoid = []) := Lib.hid List.length_eq_zero_iff
  have hQn := HQ.out.need
  have hQa := HQ.out.avoid
  obtain ⟨ya, yn, yc, rfl, hyn, -, -, -⟩ := hQn
  obtain ⟨za, zn, zc, rfl, hzn, -, -, -⟩ := hQa
  rw [← hyn] at HLn
  rw [← hzn] at HLa
  have HQn := Lib.hid HQ.out.need
  have HQa := Lib.hid HQ.out.avoid
  have HB := Lib.hid hB
  have eB := hB.2.1
  clear hokn hoka hp hr hh hyn hzn hQ hB
  generalize decB q.period = dp at *
  generalize decB q.props = dr at *
  generalize strOfNums ([q.high].map hexV) = dh at *
  generalize strOfNums (q.need.map hexV) = dn at *
  generalize strOfNums (q.avoid.map hexV) = da at *
  generalize strOfNums (qNeed q.need) = tn at *
  generalize strOfNums (qAvoid q.avoid) = ta at *
  generalize strOfNums (qHead q) = t0 at *
  have HHs : Hid (t0.size ≤ 43) := Lib.hid (by
    rw [← HH.out]
    have e1 : (⟨#[32]⟩ : ByteArray).size = 1 := rfl
    simp only [ByteArray.size_append, e1]; omega)
  have hq1 : ¬ 9223372036854775807 < dp.size + 1 := by omega
  have hq2 : ¬ 9223372036854775807 < dp.size + 1 + dr.size := by omega
  have hq3 : ¬ 9223372036854775807 < dp.size + 1 + dr.size + 1 := by omega
  have hq4 : ¬ 9223372036854775807 < dp.size + 1 + dr.size + 1 + dh.size := by omega
  go_enter Tryz.func66, Tryz.ntmps66
  have k0 := cell_regrown (eB 0)
  have k1 := cell_regrown (eB 1)
  have k2 := cell_regrown (eB 2)
  clear eB
  go_wp2
  refine wp_region_quiet_below (by kernel_rfl) (by kernel_rfl) ?_
  repeat (first | go_big_quiet_step (first | with_reducible exact Calls.regrown_of (HD1.out _) | with_reducible exact Calls.regrown_of (HD2.out _) | with_reducible exact Calls.regrown_of (HHi.out _)) | quiet_step (first | with_reducible exact Calls.regrown_of (HD1.out _) | with_reducible exact Calls.regrown_of (HD2.out _) | with_reducible exact Calls.regrown_of (HHi.out _)))
  refine wpQuiet_nil ?_
  intro _ hw'
  obtain ⟨⟨dq, osq⟩, hw''⟩ := hw'
  subst hw''
  have hbq := below_regrown w dq osq
  generalize Go.Sort.grow (redrawn w dq) osq = wq at *
  have HBz := Lib.hid (HB.out.below hbq)
  generalize hT : dp ++ (⟨#[32]⟩ : ByteArray) ++ dr ++ (⟨#[32]⟩ : ByteArray) ++ dh = T at *
  obtain rfl : T = t0 := HH.out
  have hTs := HHs.out
  clear hT HB HD1 HD2 HHi hq1 hq2 hq3 hq4 HH HHs k0 k1 k2
  have eB := HBz.out.2.1
  generalize q.canonical = ca at *
  cases ca
  all_goals
    by_cases hy0 : yn = 0
    · have HTn := Lib.hid (HN0.out (HLn.out.1 hy0))
      subst hy0
      by_cases hz0 : zn = 0
      · have HTa := Lib.hid (HA0.out (HLa.out.1 hz0))
        subst hz0
        clear HN0 HN1 HA0 HA1 HLn HLa
        go_wp2
        go_ret
        exact dstr (by rw [HR.out, HTn.out, HTa.out]; simp [qCanon_yes, qCanon_no]) hbq
      · have HTa := Lib.hid (HA1.out (fun h => hz0 (HLa.out.2 h)))
        have hz1 : 0 < zn := by omega
        clear HN0 HN1 HA0 HA1 HLn HLa hz0
        go_wp2_with fail
        refine (HAv.out _ _ (HQa.out.below hbq)).mono ?_
        rintro e w4 ⟨rfl, hbn⟩
        have hbY := bthen hbq hbn
        have HBY := Lib.hid (HBz.out.below hbn)
        replace eB := HBY.out.2.1
        clear hbn
        go_wp2
        go_ret
        exact dstr (by rw [HR.out, HTn.out, HTa.out]; simp [qCanon_yes, qCanon_no]) hbY
    · have HTn := Lib.hid (HN1.out (fun h => hy0 (HLn.out.2 h)))
      have hy1 : 0 < yn := by omega
      by_cases hz0 : zn = 0
      · have HTa := Lib.hid (HA0.out (HLa.out.1 hz0))
        subst hz0
        clear HN0 HN1 HA0 HA1 HLn HLa hy0
        go_wp2_with fail
        refine (HNd.out _ _ (HQn.out.below hbq)).mono ?_
        rintro e w4 ⟨rfl, hbn⟩
        have hbY := bthen hbq hbn
        have HBY := Lib.hid (HBz.out.below hbn)
        replace eB := HBY.out.2.1
        clear hbn
        go_wp2
        go_ret
        exact dstr (by rw [HR.out, HTn.out, HTa.out]; simp [qCanon_yes, qCanon_no]) hbY
      · have HTa := Lib.hid (HA1.out (fun h => hz0 (HLa.out.2 h)))
        have hz1 : 0 < zn := by omega
        clear HN0 HN1 HA0 HA1 HLn HLa hy0 hz0
        go_wp2_with fail
        refine (HNd.out _ _ (HQn.out.below hbq)).mono ?_
        rintro e w4 ⟨rfl, hbn⟩
        have hbY := bthen hbq hbn
        have HBY := Lib.hid (HBz.out.below hbn)
        replace eB := HBY.out.2.1
        clear hbn
        go_wp2_with fail
        refine (HAv.out _ _ (HQa.out.below hbY)).mono ?_
        rintro e w5 ⟨rfl, hbn⟩
        have hbZ := bthen hbY hbn
        have HBZ := Lib.hid (HBY.out.below hbn)
        replace eB := HBZ.out.2.1
        clear hbn
        go_wp2
        go_ret
        exact dstr (by rw [HR.out, HTn.out, HTa.out]; simp [qCanon_yes, qCanon_no]) hbZ
theorem l21Text_c (q : Query) (y z : Value) (b : Nat) (w : World) (hB : BoxIs w b [.int .i64 q.period, .int .i64 q.props, .int .i64 q.high, y, z, .bool q.canonical]) (hQ : QAt w q y z) (hok : okQueryB q = true) :
    Calls Tryz.prog 66 #[.pointer (some ⟨b, 0, none⟩)] w (Gives (.string (strOfNums (qCh q))) w) :=
  l21TextS_c q y z b w hB hQ ⟨⟨by have := (okQ_in hok).1; omega, by have := (okQ_in hok).1; omega⟩, (okQ_in hok).2.1, (okQ_in hok).2.2, okQ_need hok, okQ_avoid hok⟩
theorem sQueryText_c (q : Query) (y z : Value) (w : World) (hQ : QAt w q y z) :
    Calls Tryz.prog 19 #[.agg #[.int .i64 q.period, .int .i64 q.props, .int .i64 q.high, y, z, .bool q.canonical]] w (Gives (.string (qTextB q)) w) := by
  have HQ := Lib.hid hQ; clear hQ
  have HV := Lib.hid (fun b W x h => l21Ok_c q y z b W x h)
  have HT := Lib.hid (fun b W x h1 h2 => l21Text_c q y z b W x h1 h2)
  have HB := Lib.hid (BoxIs.new w [.int .i64 q.period, .int .i64 q.props, .int .i64 q.high, y, z, .bool q.canonical] 26)
  have HR1 := Lib.hid (fun h => qTextB_no (q := q) h)
  have HR2 := Lib.hid (fun h => qTextB_yes (q := q) h)
  generalize okQueryB q = ok at *
  go_enter Tryz.func19, Tryz.ntmps19
  go_wp2_with fail
  have hb0 : Below w.heap.size w (w.alloc (.cells #[.int .i64 q.period, .int .i64 q.props, .int .i64 q.high, y, z, .bool q.canonical] 26)) := by go_grown
  generalize w.alloc (.cells #[.int .i64 q.period, .int .i64 q.props, .int .i64 q.high, y, z, .bool q.canonical] 26) = w0 at *
  refine (HV.out _ _ HB.out (HQ.out.below hb0)).mono ?_
  rintro e w1 ⟨rfl, hb1⟩
  have hb := bthen hb0 hb1
  cases ok
  · have HR := Lib.hid (HR1.out rfl)
    clear HR1 HR2 HT
    go_wp2
    go_ret
    exact dstr HR.out hb
  · have HR := Lib.hid (HR2.out rfl)
    have HT2 := Lib.hid (HT.out _ w1 (HB.out.below hb1) (HQ.out.below hb) rfl)
    clear HR1 HR2 HT hb1
    go_wp2_with fail
    refine HT2.out.mono ?_
    rintro e w2 ⟨rfl, hb2⟩
    go_wp2
    go_ret
    exact dstr HR.out (bthen hb hb2)
end Go.Proofs.YtclffohjpbmnbaaGreatDoor
