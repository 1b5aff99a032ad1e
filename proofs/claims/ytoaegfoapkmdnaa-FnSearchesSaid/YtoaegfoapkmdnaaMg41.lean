import Derived.Test.YtoaegfoapkmdnaaMg40
/- DrawQ5: what the law on searches draws: a query and a list. -/
namespace Go.Proofs.Ytoaegfoapkmdnaa
open Go.ChangeShapes Go.WideShapes Go.ChangeAt Go.RowKit

set_option maxRecDepth 100000 in
set_option maxHeartbeats 4000000 in
theorem drawNextFound_c (v : Value) (cs : List Int) (w : World) (hv : BytesAt w v cs) (hin : ∀ x ∈ cs, 0 ≤ x ∧ x ≤ 255) (hl : cs.length ≤ 4096) : Calls Try.prog 12 #[v] w fun e w' =>
    ∃ q y z p u, e = .returned (.tuple #[.agg #[.int .i64 q.period, .int .i64 q.props, .int .i64 q.high, y, z, .bool q.canonical], p]) ∧ QAt w' q y z ∧ IntsAt w' p u ∧ Below w.heap.size w w' := by
  have HV := Lib.hid hv
  have Hin := Lib.hid hin
  have Hcl := Lib.hid hl
  clear hv hin hl
  go_enter Try.func12, Try.ntmps12
  go_wp2_with fail
  have hb0 : Below w.heap.size w (w.alloc (.cells #[.int .i64 0, .int .i64 0, .int .i64 0, .slice none 0 0, .slice none 0 0, .bool false] 26)) := by go_grown
  have HB0 := Lib.hid (BoxIs.new w [.int .i64 0, .int .i64 0, .int .i64 0, .slice none 0 0, .slice none 0 0, .bool false] 26)
  generalize w.alloc (.cells #[.int .i64 0, .int .i64 0, .int .i64 0, .slice none 0 0, .slice none 0 0, .bool false] 26) = w0 at *
  have hs0 := HB0.out.1
  refine (l00From_c v cs w0 (HV.out.below hb0) Hin.out Hcl.out).mono ?_
  rintro e w1 ⟨rfl, hsrc, hb1⟩
  have HR0 := Lib.hid (HB0.out.below hb1)
  have hbw := Lib.hid (bthen hb0 hb1)
  have hbl := hsrc.lt
  have HS := Lib.hid hsrc
  generalize w0.heap.size = b at *
  clear hsrc hb0 hb1 HB0
  go_wp2_with fail
  refine (l21Bent_c b 0 w1 HS.out (by omega)).mono ?_
  rintro e w2 ⟨⟨pe, pr, hi, ne, av, ca⟩, ya, yn, yc, za, zn, zc, rfl, hq, hd⟩
  have HR1 := Lib.hid (box_drew HR0.out hd (by omega))
  have HQ1 := Lib.hid hq
  have HD1 := Lib.hid hd
  have hs2 := hd.2.size
  clear hq hd HR0 HS
  go_wp2_with fail
  have HB := Lib.hid (BoxIs.new w2 [.int .i64 pe, .int .i64 pr, .int .i64 hi, .slice ya yn yc, .slice za zn zc, .bool ca] 26)
  have hb5 : Below w2.heap.size w2 (w2.alloc (.cells #[.int .i64 pe, .int .i64 pr, .int .i64 hi, .slice ya yn yc, .slice za zn zc, .bool ca] 26)) := by go_grown
  have HsB := Lib.hid (show (w2.alloc (.cells #[.int .i64 pe, .int .i64 pr, .int .i64 hi, .slice ya yn yc, .slice za zn zc, .bool ca] 26)).heap.size = w2.heap.size + 1 by simp)
  generalize w2.alloc (.cells #[.int .i64 pe, .int .i64 pr, .int .i64 hi, .slice ya yn yc, .slice za zn zc, .bool ca] 26) = w3 at *
  have HR := Lib.hid (HR1.out.below hb5)
  have HD := Lib.hid (HD1.out.then_below hb5)
  have HQ := Lib.hid ((HQ1.out.fresh (X := w2.heap.size) (Nat.le_refl _)).below hb5)
  generalize w2.heap.size = B at *
  clear HR1 HD1 HQ1 hb5
  have hpe := HQ.out.pe
  dsimp only at hpe
  have hbE : Below w3.heap.size w3 (w3.alloc (.cells #[] 2)) := by go_grown
  have HO := Lib.hid (own_empty w3)
  have hBs := HB.out.1
  have hRs := HR.out.1
  have HBE := Lib.hid (HB.out.below hbE)
  have HDE := Lib.hid (Drew.of_below HD.out.1 hbE)
  have hsE : w3.heap.size < (w3.alloc (.cells #[] 2)).heap.size := by simp
  generalize w3.alloc (.cells #[] 2) = w4 at *
  have hP := HsB.out
  rw [hP] at HO hsE
  generalize B + 1 = P at *
  clear hbE
  refine wp_region_held_drew (S := fun w' => w'.cell? ⟨B, 0, none⟩ = some (.int .i64 pe)) (by kernel_rfl) (by exact ((HBE.out.below (Below.refl _ _).drew).2.1 0)) (fun hHeld => ?_)
  refine wpAnyH_take (i := 0) (oi := ⟨_, _, _, _, _, _⟩) (v := ?_) rfl (by kernel_rfl) (by kernel_rfl) (by kernel_rfl) (fun _ _ _ h => h) (Or.inl ⟨by rfl, ?_⟩) (by assumption) ?_; rotate_left; (focus (intro w hSw; (try dsimp only at hSw); go_simp; try with_reducible rfl)); (try simp only [Act.put, List.setIfInBounds_toArray, List.set_cons_zero, List.set_cons_succ])
  refine wpAnyH_take (i := 1) (oi := ⟨_, _, _, _, _, _⟩) (v := ?_) rfl (by kernel_rfl) (by kernel_rfl) (by kernel_rfl) (fun _ _ _ h => h) (Or.inl ⟨by rfl, ?_⟩) (by assumption) ?_; rotate_left; (focus (intro w hSw; (try dsimp only at hSw); have t0 := hSw; go_simp; try with_reducible rfl)); (try simp only [Act.put, List.setIfInBounds_toArray, List.set_cons_zero, List.set_cons_succ])
  refine wpAnyH_take (i := 2) (oi := ⟨_, _, _, _, _, _⟩) (v := ?_) rfl (by kernel_rfl) (by kernel_rfl) (by kernel_rfl) (fun _ _ _ h => h) (Or.inl ⟨by rfl, ?_⟩) (by assumption) ?_; rotate_left; (focus (intro w hSw; (try dsimp only at hSw); go_simp; try with_reducible rfl)); (try simp only [Act.put, List.setIfInBounds_toArray, List.set_cons_zero, List.set_cons_succ])
  refine wpAnyH_ready (rs := [3]) (by kernel_rfl) (by simp) ?_
  refine AllReadyH.cons (o := ⟨_, _, _, _, _, _⟩) rfl (fun K hK => ?_) AllReadyH.nil
  go_simp
  go_at_call 21; refine (pick_c b _ 12 _ (HDE.out.1.below (Below.refl _ _).drew) (by omega) (by omega)).mono ?_; rintro e w5 ⟨r, rfl, hr, hd⟩; have hr2 : r ≤ 11 := (by omega); have hS' : w5.cell? ⟨B, 0, none⟩ = some (.int .i64 pe) := (box_drew (HBE.out.below (Below.refl _ _).drew) hd (by omega)).2.1 0
  refine hK.out _ _ (by exact hS') (fun hHeld' => ?_)
  clear hHeld hK K
  have hHeld := hHeld'
  clear hHeld'
  try simp only [Act.put, List.setIfInBounds_toArray, List.set_cons_zero, List.set_cons_succ]
  refine wpAnyH_take (i := 4) (oi := ⟨_, _, _, _, _, _⟩) (v := ?_) rfl (by kernel_rfl) (by kernel_rfl) (by kernel_rfl) (fun _ _ _ h => h) (Or.inl ⟨by rfl, ?_⟩) (by assumption) ?_; rotate_left; (focus (intro w hSw; (try dsimp only at hSw); go_simp; try with_reducible rfl)); (try simp only [Act.put, List.setIfInBounds_toArray, List.set_cons_zero, List.set_cons_succ])
  refine wpAnyH_take (i := 5) (oi := ⟨_, _, _, _, _, _⟩) (v := ?_) rfl (by kernel_rfl) (by kernel_rfl) (by kernel_rfl) (fun _ _ _ h => h) (Or.inl ⟨by rfl, ?_⟩) (by assumption) ?_; rotate_left; (focus (intro w hSw; (try dsimp only at hSw); go_simp; try with_reducible rfl)); (try simp only [Act.put, List.setIfInBounds_toArray, List.set_cons_zero, List.set_cons_succ])
  refine wpAnyH_take (i := 6) (oi := ⟨_, _, _, _, _, _⟩) (v := ?_) rfl (by kernel_rfl) (by kernel_rfl) (by kernel_rfl) (fun _ _ _ h => h) (Or.inl ⟨by rfl, ?_⟩) (by assumption) ?_; rotate_left; (focus (intro w hSw; (try dsimp only at hSw); go_simp; try with_reducible rfl)); (try simp only [Act.put, List.setIfInBounds_toArray, List.set_cons_zero, List.set_cons_succ])
  refine wpAnyH_done (by kernel_rfl) ?_ _
  have hd3 : Hid (Drew b (0 + 400 + 2) w3 w5) := Lib.hid ((HDE.out.then_below (Below.refl _ _).drew).trans hd)
  replace HO := Lib.hid (own_drew (own_below HO.out (Below.refl _ _).drew) hd (by omega))
  clear hd HDE HBE hHeld hr
  obtain ⟨K, HE, hK1⟩ : ∃ K, Hid (IntKind.i64.wrap (pe + IntKind.i64.wrap ((r : Int) / 11)) = K) ∧ K ≤ 21 := by
    obtain ⟨u, hu, hu2⟩ : ∃ u : Nat, (r : Int) / 11 = (u : Int) ∧ u ≤ 1 := ⟨r / 11, by simp, by omega⟩
    refine ⟨pe + (u : Int), Lib.hid ?_, by omega⟩
    rw [hu, show IntKind.i64.wrap (u : Int) = (u : Int) from IntWalk.i64_in _ (by omega)]
    exact IntWalk.i64_in _ (by omega)
  have HP := Lib.hid hP
  have hbP : b < P := by omega
  have hBP : B < P := by omega
  clear hP hr2 hpe
  go_wp2
  go_loopw [6, 7] (fun o i wr => ∃ (k : Int) (a' : Option Addr) (n' c' : Nat) (l' : List Int), i = .int .i64 k ∧ k ≤ 21 ∧ o = .slice a' n' c' ∧ Hid (l'.length + k.toNat ≤ 21) ∧ Hid (OwnInts wr P (.slice a' n' c') l') ∧ Hid (Drew b (402 + 2 * (21 - k.toNat)) w3 wr)) (fun _ i _ => (intOf i).toNat)
  case atStart => exact ⟨K, _, _, _, [], congrArg (Value.int .i64) HE.out, hK1, rfl, Lib.hid (by simp; omega), HO, Lib.hid (hd3.out.mono (by omega))⟩
  case round =>
    obtain ⟨k, a', n', c', l', rfl, hk, rfl, Hl', HO, HDr⟩ := hrel
    by_cases hlt : 0 < k
    · go_wp2_with fail
      refine (pick_c b _ 8 _ HDr.out.1 (by omega) (by omega)).mono ?_
      rintro e w6 ⟨t, rfl, -, hd⟩
      replace HO := Lib.hid (own_drew HO.out hd (by omega))
      replace HDr := Lib.hid (HDr.out.trans hd)
      clear hd
      have hs6 := HDr.out.2.size
      rw [HP.out] at hs6
      go_wp2_with (at_builtin; refine wpList_app_ints rfl _ _ rfl P _ _ rfl (HO.out.alloc _) _ _ _ [(t : Int)] rfl rfl (ints_new _ _ _) (by have := Hl'.out; simp only [List.length_cons, List.length_nil]; omega) (by simp; omega) ?_)
      intro a7 n7 c7 w7 ho7 hg7 _ hn7; clear hn7
      have hb7 : Below P w6 w7 := ((Below.refl _ _).alloc (by omega) _).grown hg7 (by simp; omega) (fun g hg => (World.ownsRow.lt HO.out g hg).1)
      have HD7 := Lib.hid (HDr.out.thenK (by rw [HP.out]; exact hb7) (by rw [HP.out]; omega))
      have HO7 := Lib.hid ho7
      clear ho7 hg7 HO HDr hb7
      go_wp2
      exact ⟨⟨k - 1, a7, n7, c7, _, by go_num, by omega, rfl, Lib.hid (by have := Hl'.out; simp; omega), HO7, Lib.hid (HD7.out.mono (by omega))⟩, by simp [intOf]; omega⟩
    · have hs6 := HDr.out.2.size
      rw [HP.out] at hs6
      obtain ⟨hn, hh⟩ := ownHead HO.out
      rcases Nat.eq_zero_or_pos n' with h0 | h0
      · subst h0
        clear hn hh
        have HP9 : Hid (IntsAt wr (.slice a' 0 c') l') := Lib.hid (OwnInts.at HO.out)
        have HF := Lib.hid (own_fresh HO.out)
        have HDz := HDr
        clear HO HDr
        have HR9 := Lib.hid (box_drew HR.out HDz.out (by omega))
        have HB9 := Lib.hid (box_drew HB.out HDz.out (by omega))
        have HQ9 := Lib.hid (HQ.out.drew HDz.out hbl)
        obtain ⟨e1, f1⟩ := HR9.out.cells
        have e2 := HB9.out.2.1
        have HEnd : Hid (∀ W, (∃ x0 x1 x2 x3 x4 x5, W = ((((((wr).setCell ⟨w.heap.size, 0, none⟩ x0).setCell ⟨w.heap.size, 1, none⟩ x1).setCell ⟨w.heap.size, 2, none⟩ x2).setCell ⟨w.heap.size, 3, none⟩ x3).setCell ⟨w.heap.size, 4, none⟩ x4).setCell ⟨w.heap.size, 5, none⟩ x5) → QAt W ⟨pe, pr, hi, ne, av, ca⟩ (.slice ya yn yc) (.slice za zn zc) ∧ IntsAt W (Value.slice a' 0 c') (l') ∧ Below w.heap.size w W) := Lib.hid (by
          rintro W ⟨x0, x1, x2, x3, x4, x5, rfl⟩
          have h := (((((HQ9.out.set (c' := w.heap.size) (i' := 0) (by omega) x0).set (c' := w.heap.size) (i' := 1) (by omega) x1).set (c' := w.heap.size) (i' := 2) (by omega) x2).set (c' := w.heap.size) (i' := 3) (by omega) x3).set (c' := w.heap.size) (i' := 4) (by omega) x4).set (c' := w.heap.size) (i' := 5) (by omega) x5
          have hF : ∀ (b' : Nat) (o m c : Nat), (Value.slice a' 0 c') = (Value.slice (some ⟨b', o, none⟩) m c) → b' ≠ w.heap.size := fun b' o m c e => by have := HF.out b' o m c e; omega
          have h2 := (((((HP9.out.setO (p := ⟨w.heap.size, 0, none⟩) (fun _ b' o m c e => hF b' o m c e) x0).setO (p := ⟨w.heap.size, 1, none⟩) (fun _ b' o m c e => hF b' o m c e) x1).setO (p := ⟨w.heap.size, 2, none⟩) (fun _ b' o m c e => hF b' o m c e) x2).setO (p := ⟨w.heap.size, 3, none⟩) (fun _ b' o m c e => hF b' o m c e) x3).setO (p := ⟨w.heap.size, 4, none⟩) (fun _ b' o m c e => hF b' o m c e) x4).setO (p := ⟨w.heap.size, 5, none⟩) (fun _ b' o m c e => hF b' o m c e) x5
          have hx : Below w.heap.size w (wr) := (hbw.out.trans ((HD.out.below (by omega)).mono (by omega))).trans ((HDz.out.below (by omega)).mono (by omega))
          exact ⟨⟨h.need, h.avoid⟩, h2, (((((hx.setCell (p := ⟨w.heap.size, 0, none⟩) (Nat.le_refl _) x0).setCell (p := ⟨w.heap.size, 1, none⟩) (Nat.le_refl _) x1).setCell (p := ⟨w.heap.size, 2, none⟩) (Nat.le_refl _) x2).setCell (p := ⟨w.heap.size, 3, none⟩) (Nat.le_refl _) x3).setCell (p := ⟨w.heap.size, 4, none⟩) (Nat.le_refl _) x4).setCell (p := ⟨w.heap.size, 5, none⟩) (Nat.le_refl _) x5⟩)
        clear HB HR HQ HD HR9 HB9 HQ9 hS'
        have hwB : w.heap.size ≠ B := by omega
        go_wp2
        refine bodyPost_ret (v := .tuple #[.agg #[.int .i64 pe, .int .i64 pr, .int .i64 hi, .slice ya yn yc, .slice za zn zc, .bool ca], Value.slice a' 0 c']) (by simp [results, Try.results12, go_sem, e1]) rfl ?_
        obtain ⟨g1, g2, g3⟩ := HEnd.out _ ⟨_, _, _, _, _, _, rfl⟩
        first | exact ⟨⟨pe, pr, hi, ne, av, ca⟩, _, _, _, rfl, g1, ⟨_, g2⟩, g3⟩ | exact ⟨⟨pe, pr, hi, ne, av, ca⟩, _, _, _, _, rfl, g1, g2, g3⟩
      · obtain ⟨g, rfl, hg⟩ := hh h0
        have Hn := Lib.hid hn
        clear hn hh
        have h0' : (0 : Int) < (n' : Int) := by omega
        go_wp2_with fail
        refine (one_c b _ 12 _ HDr.out.1 (by omega) (by omega)).mono ?_
        rintro e w6 ⟨d, rfl, hd⟩
        replace HO := Lib.hid (own_drew HO.out hd hbP)
        replace HDr := Lib.hid (HDr.out.trans hd)
        clear hd
        cases d
        · have HP9 : Hid (IntsAt w6 (.slice (some ⟨g, 0, none⟩) n' c') l') := Lib.hid (OwnInts.at HO.out)
          have HF := Lib.hid (own_fresh HO.out)
          have HDz := HDr
          clear HO HDr
          have HR9 := Lib.hid (box_drew HR.out HDz.out (by omega))
          have HB9 := Lib.hid (box_drew HB.out HDz.out (by omega))
          have HQ9 := Lib.hid (HQ.out.drew HDz.out hbl)
          obtain ⟨e1, f1⟩ := HR9.out.cells
          have e2 := HB9.out.2.1
          have HEnd : Hid (∀ W, (∃ x0 x1 x2 x3 x4 x5, W = ((((((w6).setCell ⟨w.heap.size, 0, none⟩ x0).setCell ⟨w.heap.size, 1, none⟩ x1).setCell ⟨w.heap.size, 2, none⟩ x2).setCell ⟨w.heap.size, 3, none⟩ x3).setCell ⟨w.heap.size, 4, none⟩ x4).setCell ⟨w.heap.size, 5, none⟩ x5) → QAt W ⟨pe, pr, hi, ne, av, ca⟩ (.slice ya yn yc) (.slice za zn zc) ∧ IntsAt W (Value.slice (some ⟨g, 0, none⟩) n' c') (l') ∧ Below w.heap.size w W) := Lib.hid (by
            rintro W ⟨x0, x1, x2, x3, x4, x5, rfl⟩
            have h := (((((HQ9.out.set (c' := w.heap.size) (i' := 0) (by omega) x0).set (c' := w.heap.size) (i' := 1) (by omega) x1).set (c' := w.heap.size) (i' := 2) (by omega) x2).set (c' := w.heap.size) (i' := 3) (by omega) x3).set (c' := w.heap.size) (i' := 4) (by omega) x4).set (c' := w.heap.size) (i' := 5) (by omega) x5
            have hF : ∀ (b' : Nat) (o m c : Nat), (Value.slice (some ⟨g, 0, none⟩) n' c') = (Value.slice (some ⟨b', o, none⟩) m c) → b' ≠ w.heap.size := fun b' o m c e => by have := HF.out b' o m c e; omega
            have h2 := (((((HP9.out.setO (p := ⟨w.heap.size, 0, none⟩) (fun _ b' o m c e => hF b' o m c e) x0).setO (p := ⟨w.heap.size, 1, none⟩) (fun _ b' o m c e => hF b' o m c e) x1).setO (p := ⟨w.heap.size, 2, none⟩) (fun _ b' o m c e => hF b' o m c e) x2).setO (p := ⟨w.heap.size, 3, none⟩) (fun _ b' o m c e => hF b' o m c e) x3).setO (p := ⟨w.heap.size, 4, none⟩) (fun _ b' o m c e => hF b' o m c e) x4).setO (p := ⟨w.heap.size, 5, none⟩) (fun _ b' o m c e => hF b' o m c e) x5
            have hx : Below w.heap.size w (w6) := (hbw.out.trans ((HD.out.below (by omega)).mono (by omega))).trans ((HDz.out.below (by omega)).mono (by omega))
            exact ⟨⟨h.need, h.avoid⟩, h2, (((((hx.setCell (p := ⟨w.heap.size, 0, none⟩) (Nat.le_refl _) x0).setCell (p := ⟨w.heap.size, 1, none⟩) (Nat.le_refl _) x1).setCell (p := ⟨w.heap.size, 2, none⟩) (Nat.le_refl _) x2).setCell (p := ⟨w.heap.size, 3, none⟩) (Nat.le_refl _) x3).setCell (p := ⟨w.heap.size, 4, none⟩) (Nat.le_refl _) x4).setCell (p := ⟨w.heap.size, 5, none⟩) (Nat.le_refl _) x5⟩)
          clear HB HR HQ HD HR9 HB9 HQ9 hS'
          have hwB : w.heap.size ≠ B := by omega
          go_wp2
          refine bodyPost_ret (v := .tuple #[.agg #[.int .i64 pe, .int .i64 pr, .int .i64 hi, .slice ya yn yc, .slice za zn zc, .bool ca], Value.slice (some ⟨g, 0, none⟩) n' c']) (by simp [results, Try.results12, go_sem, e1]) rfl ?_
          obtain ⟨g1, g2, g3⟩ := HEnd.out _ ⟨_, _, _, _, _, _, rfl⟩
          first | exact ⟨⟨pe, pr, hi, ne, av, ca⟩, _, _, _, rfl, g1, ⟨_, g2⟩, g3⟩ | exact ⟨⟨pe, pr, hi, ne, av, ca⟩, _, _, _, _, rfl, g1, g2, g3⟩
        · go_wp2_with fail
          have hl4 := ints_lit (w := w6) [-1, 15, 16] _ rfl _ rfl (by decide)
          have hbA : Below w6.heap.size w6 (w6.alloc (.cells (([-1, 15, 16] : List Int).map (Value.int .i64)).toArray 2)) := by go_grown
          have HDA := Lib.hid (HDr.out.then_below hbA)
          have HOA := Lib.hid (own_below HO.out hbA)
          have hs7 := HDr.out.2.size
          refine (among_c b _ _ [-1, 15, 16] _ HDA.out.1 (by omega) hl4 (by decide) (by decide) (fun b' o m c e => by injection e with e1; injection e1 with e1; injection e1 with e1; omega)).mono ?_
          rintro e w7 ⟨r4, hr4, rfl, hd⟩
          replace HOA := Lib.hid (own_drew HOA.out hd hbP)
          replace HDA := Lib.hid (HDA.out.trans hd)
          clear hd hl4 hbA HO HDr hr4 hs7
          generalize nth ([-1, 15, 16] : List Int) r4 = v0 at *
          obtain ⟨e0, f0⟩ := ownCell HOA.out 0 (by rw [← Hn.out]; exact h0)
          have HP9 : Hid (IntsAt (w7.setCell ⟨g, 0, none⟩ (.int .i64 v0)) (.slice (some ⟨g, 0, none⟩) n' c') (l'.set 0 v0)) := Lib.hid (OwnInts.at (ownSet HOA.out 0 v0))
          have HF := Lib.hid (own_fresh (ownSet HOA.out 0 v0))
          have HDz : Hid (Drew b _ w3 (w7.setCell ⟨g, 0, none⟩ (.int .i64 v0))) := Lib.hid (HDA.out.thenK ((Below.refl _ _).setCell (by rw [HP.out]; exact hg) _) (by rw [HP.out]; exact hbP))
          have hgB : B < g := by omega
          have hgw : w.heap.size < g := by omega
          clear HOA HDA
          have HR9 := Lib.hid (box_drew HR.out HDz.out (by omega))
          have HB9 := Lib.hid (box_drew HB.out HDz.out (by omega))
          have HQ9 := Lib.hid (HQ.out.drew HDz.out hbl)
          obtain ⟨e1, f1⟩ := HR9.out.cells
          have e2 := HB9.out.2.1
          have HEnd : Hid (∀ W, (∃ x0 x1 x2 x3 x4 x5, W = (((((((w7.setCell ⟨g, 0, none⟩ (.int .i64 v0))).setCell ⟨w.heap.size, 0, none⟩ x0).setCell ⟨w.heap.size, 1, none⟩ x1).setCell ⟨w.heap.size, 2, none⟩ x2).setCell ⟨w.heap.size, 3, none⟩ x3).setCell ⟨w.heap.size, 4, none⟩ x4).setCell ⟨w.heap.size, 5, none⟩ x5) → QAt W ⟨pe, pr, hi, ne, av, ca⟩ (.slice ya yn yc) (.slice za zn zc) ∧ IntsAt W (Value.slice (some ⟨g, 0, none⟩) n' c') (l'.set 0 v0) ∧ Below w.heap.size w W) := Lib.hid (by
            rintro W ⟨x0, x1, x2, x3, x4, x5, rfl⟩
            have h := (((((HQ9.out.set (c' := w.heap.size) (i' := 0) (by omega) x0).set (c' := w.heap.size) (i' := 1) (by omega) x1).set (c' := w.heap.size) (i' := 2) (by omega) x2).set (c' := w.heap.size) (i' := 3) (by omega) x3).set (c' := w.heap.size) (i' := 4) (by omega) x4).set (c' := w.heap.size) (i' := 5) (by omega) x5
            have hF : ∀ (b' : Nat) (o m c : Nat), (Value.slice (some ⟨g, 0, none⟩) n' c') = (Value.slice (some ⟨b', o, none⟩) m c) → b' ≠ w.heap.size := fun b' o m c e => by have := HF.out b' o m c e; omega
            have h2 := (((((HP9.out.setO (p := ⟨w.heap.size, 0, none⟩) (fun _ b' o m c e => hF b' o m c e) x0).setO (p := ⟨w.heap.size, 1, none⟩) (fun _ b' o m c e => hF b' o m c e) x1).setO (p := ⟨w.heap.size, 2, none⟩) (fun _ b' o m c e => hF b' o m c e) x2).setO (p := ⟨w.heap.size, 3, none⟩) (fun _ b' o m c e => hF b' o m c e) x3).setO (p := ⟨w.heap.size, 4, none⟩) (fun _ b' o m c e => hF b' o m c e) x4).setO (p := ⟨w.heap.size, 5, none⟩) (fun _ b' o m c e => hF b' o m c e) x5
            have hx : Below w.heap.size w ((w7.setCell ⟨g, 0, none⟩ (.int .i64 v0))) := (hbw.out.trans ((HD.out.below (by omega)).mono (by omega))).trans ((HDz.out.below (by omega)).mono (by omega))
            exact ⟨⟨h.need, h.avoid⟩, h2, (((((hx.setCell (p := ⟨w.heap.size, 0, none⟩) (Nat.le_refl _) x0).setCell (p := ⟨w.heap.size, 1, none⟩) (Nat.le_refl _) x1).setCell (p := ⟨w.heap.size, 2, none⟩) (Nat.le_refl _) x2).setCell (p := ⟨w.heap.size, 3, none⟩) (Nat.le_refl _) x3).setCell (p := ⟨w.heap.size, 4, none⟩) (Nat.le_refl _) x4).setCell (p := ⟨w.heap.size, 5, none⟩) (Nat.le_refl _) x5⟩)
          clear HB HR HQ HD HR9 HB9 HQ9 hS'
          have hwB : w.heap.size ≠ B := by omega
          go_wp2
          refine bodyPost_ret (v := .tuple #[.agg #[.int .i64 pe, .int .i64 pr, .int .i64 hi, .slice ya yn yc, .slice za zn zc, .bool ca], Value.slice (some ⟨g, 0, none⟩) n' c']) (by simp [results, Try.results12, go_sem, e1]) rfl ?_
          obtain ⟨g1, g2, g3⟩ := HEnd.out _ ⟨_, _, _, _, _, _, rfl⟩
          first | exact ⟨⟨pe, pr, hi, ne, av, ca⟩, _, _, _, rfl, g1, ⟨_, g2⟩, g3⟩ | exact ⟨⟨pe, pr, hi, ne, av, ca⟩, _, _, _, _, rfl, g1, g2, g3⟩
end Go.Proofs.Ytoaegfoapkmdnaa
