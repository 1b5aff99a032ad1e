import Derived.Test.YtcgbdhbdlnimhaaGreatMg44
import Derived.Test.YtcgbdhbdlnimhaaGreatMg25
import Derived.Test.YtcgbdhbdlnimhaaGreatMg46
import Derived.Test.YtcgbdhbdlnimhaaGreatMg49
/- DrawI5: what the laws on libraries draw. -/
namespace Go.Proofs.YtcgbdhbdlnimhaaGreat
open Go.ChangeShapes Go.WideShapes Go.ChangeAt Go.RowKit

def turnL (l : List Int) (k : Nat) : List Int := if okPat l = true then rotL l k else []
def turnC (l : List Int) : Int := if okPat l = true then 0 else 1
theorem rotatePatternA_c (v : Value) (l : List Int) (k : Nat) (w : World) (hv : IntsAt w v l) (hk : k ≤ 1000) : Calls Tryz.prog 18 #[v, .int .i64 k] w (GivesIntsC (turnL l k) (turnC l) w) := by
  unfold turnL turnC
  by_cases ho : okPat l = true
  · rw [if_pos ho, if_pos ho]
    exact rotatePattern_c v l k w hv ho hk
  · rw [if_neg ho, if_neg ho]
    have hq := l02Ok_c v l w hv
    rw [Bool.eq_false_iff.2 ho] at hq
    clear hv ho
    go_enter Tryz.func18, Tryz.ntmps18
    go_wp2_with (first | (go_at_call 56; refine hq.mono ?_; rintro e w1 ⟨rfl, hb1⟩) | go_in)
    go_ret2
    exact GivesIntsC.none rfl rfl hb1
set_option maxRecDepth 100000 in
set_option maxHeartbeats 2000000 in
theorem drawRemoveItem_c (v : Value) (cs : List Int) (w : World) (hv : BytesAt w v cs) (hin : ∀ x ∈ cs, 0 ≤ x ∧ x ≤ 255) (hl : cs.length ≤ 4096) : Calls Tryz.prog 9 #[v] w fun e w' => ∃ (a : Option Addr) (m c : Nat) (l : List Item) (s : ByteArray), e = .returned (.tuple #[.slice a m c, .string s]) ∧ l.length ≤ 81 ∧ ItemsAt w' (.slice a m c) l ∧ s.size ≤ 7 ∧ Below w.heap.size w w' := by
  have HV := Lib.hid hv
  have Hin := Lib.hid hin
  have Hcl := Lib.hid hl
  clear hv hin hl
  go_enter Tryz.func9, Tryz.ntmps9
  go_wp2_with fail
  refine (l00From_c v cs w HV.out Hin.out Hcl.out).mono ?_
  rintro e w1 ⟨rfl, hsrc, hb1⟩
  have hs1 := hb1.size
  have hbl := hsrc.lt
  have HB1 := Lib.hid hb1
  have HS := Lib.hid hsrc
  clear hsrc hb1
  generalize hB : w.heap.size = b at *
  have HhB := Lib.hid hB
  clear hB
  go_wp2_with fail
  refine (l22Bent_c b 0 w1 HS.out (by omega)).mono ?_
  rintro e w2 ⟨a, m, c, ps, rfl, hps, ho, hd⟩
  have HPs := Lib.hid hps
  have hml := ho.len
  have Hml := Lib.hid hml
  have hm81 : m ≤ 81 := by have := hps.1; omega
  have HO := Lib.hid ho
  have HD := Lib.hid hd
  clear hps ho hd hml HS
  go_wp2_with fail
  refine (l22Name_c b _ w2 HD.out.1 (by omega)).mono ?_
  rintro e w3 ⟨s, hs, rfl, hd⟩
  replace HO := Lib.hid (HO.out.drew hd hbl)
  replace HD := Lib.hid (HD.out.trans hd)
  clear hd
  have H3 : Hid (Below b w w3) := Lib.hid (HB1.out.trans (HD.out.below hs1))
  have HO7 := Lib.hid (RowI.at HO.out)
  have Hl81 : Hid ((ps.map (·.2)).length ≤ 81) := Lib.hid (by rw [List.length_map]; exact HPs.out.1)
  clear HO HD HPs Hml
  go_wp2
  go_ret2
  exact ⟨a, m, c, _, s, rfl, Hl81.out, HO7.out, hs, by rw [HhB.out]; exact H3.out⟩
set_option maxRecDepth 100000 in
set_option maxHeartbeats 2000000 in
theorem drawItemsText_c (v : Value) (cs : List Int) (w : World) (hv : BytesAt w v cs) (hin : ∀ x ∈ cs, 0 ≤ x ∧ x ≤ 255) (hl : cs.length ≤ 4096) : Calls Tryz.prog 26 #[v] w fun e w' => ∃ (a : Option Addr) (m c : Nat) (l : List Item), e = .returned (.slice a m c) ∧ l.length ≤ 81 ∧ ItemsAt w' (.slice a m c) l ∧ Below w.heap.size w w' := by
  have HV := Lib.hid hv
  have Hin := Lib.hid hin
  have Hcl := Lib.hid hl
  clear hv hin hl
  go_enter Tryz.func26, Tryz.ntmps26
  go_wp2_with fail
  refine (l00From_c v cs w HV.out Hin.out Hcl.out).mono ?_
  rintro e w1 ⟨rfl, hsrc, hb1⟩
  have hs1 := hb1.size
  have hbl := hsrc.lt
  have HB1 := Lib.hid hb1
  have HS := Lib.hid hsrc
  clear hsrc hb1
  generalize hB : w.heap.size = b at *
  have HhB := Lib.hid hB
  clear hB
  go_wp2_with fail
  refine (l22Bent_c b 0 w1 HS.out (by omega)).mono ?_
  rintro e w2 ⟨a, m, c, ps, rfl, hps, ho, hd⟩
  have HPs := Lib.hid hps
  have hml := ho.len
  have Hml := Lib.hid hml
  have hm81 : m ≤ 81 := by have := hps.1; omega
  have HO := Lib.hid ho
  have HD := Lib.hid hd
  clear hps ho hd hml HS
  have H3 : Hid (Below b w w2) := Lib.hid (HB1.out.trans (HD.out.below hs1))
  have HO7 := Lib.hid (RowI.at HO.out)
  have Hl81 : Hid ((ps.map (·.2)).length ≤ 81) := Lib.hid (by rw [List.length_map]; exact HPs.out.1)
  clear HO HD HPs Hml
  go_wp2
  go_ret
  exact ⟨a, m, c, _, rfl, Hl81.out, HO7.out, by rw [HhB.out]; exact H3.out⟩
set_option maxRecDepth 100000 in
set_option maxHeartbeats 2000000 in
theorem drawMergeItems_c (v : Value) (cs : List Int) (w : World) (hv : BytesAt w v cs) (hin : ∀ x ∈ cs, 0 ≤ x ∧ x ≤ 255) (hl : cs.length ≤ 4096) : Calls Tryz.prog 23 #[v] w fun e w' => ∃ (a : Option Addr) (m c : Nat) (l : List Item) (a2 : Option Addr) (m2 c2 : Nat) (l2 : List Item), e = .returned (.tuple #[.slice a m c, .slice a2 m2 c2]) ∧ l.length ≤ 81 ∧ ItemsAt w' (.slice a m c) l ∧ l2.length ≤ 81 ∧ ItemsAt w' (.slice a2 m2 c2) l2 ∧ Below w.heap.size w w' := by
  have HV := Lib.hid hv
  have Hin := Lib.hid hin
  have Hcl := Lib.hid hl
  clear hv hin hl
  go_enter Tryz.func23, Tryz.ntmps23
  go_wp2_with fail
  refine (l00From_c v cs w HV.out Hin.out Hcl.out).mono ?_
  rintro e w1 ⟨rfl, hsrc, hb1⟩
  have hs1 := hb1.size
  have hbl := hsrc.lt
  have HB1 := Lib.hid hb1
  have HS := Lib.hid hsrc
  clear hsrc hb1
  generalize hB : w.heap.size = b at *
  have HhB := Lib.hid hB
  clear hB
  go_wp2_with fail
  refine (l22Bent_c b 0 w1 HS.out (by omega)).mono ?_
  rintro e w2 ⟨a, m, c, ps, rfl, hps, ho, hd⟩
  have HPs := Lib.hid hps
  have hml := ho.len
  have Hml := Lib.hid hml
  have hm81 : m ≤ 81 := by have := hps.1; omega
  have HO := Lib.hid ho
  have HD := Lib.hid hd
  clear hps ho hd hml HS
  have hs2 := HD.out.2.size
  go_wp2_with fail
  refine (l22Bent_c b _ w2 HD.out.1 (by omega)).mono ?_
  rintro e w3 ⟨a2, m2, c2, ps2, rfl, hps2, ho2, hd⟩
  replace HO := Lib.hid (HO.out.drew hd hbl)
  replace HD := Lib.hid (HD.out.trans hd)
  clear hd
  have HO8 := Lib.hid (RowI.at ho2)
  have Hl8 : Hid ((ps2.map (·.2)).length ≤ 81) := Lib.hid (by rw [List.length_map]; exact hps2.1)
  clear ho2 hps2
  have H3 : Hid (Below b w w3) := Lib.hid (HB1.out.trans (HD.out.below hs1))
  have HO7 := Lib.hid (RowI.at HO.out)
  have Hl81 : Hid ((ps.map (·.2)).length ≤ 81) := Lib.hid (by rw [List.length_map]; exact HPs.out.1)
  clear HO HD HPs Hml
  go_wp2
  go_ret2
  exact ⟨a, m, c, _, a2, m2, c2, _, rfl, Hl81.out, HO7.out, Hl8.out, HO8.out, by rw [HhB.out]; exact H3.out⟩
set_option maxRecDepth 100000 in
set_option maxHeartbeats 2000000 in
theorem drawNamesWith_c (v : Value) (cs : List Int) (w : World) (hv : BytesAt w v cs) (hin : ∀ x ∈ cs, 0 ≤ x ∧ x ≤ 255) (hl : cs.length ≤ 4096) : Calls Tryz.prog 31 #[v] w fun e w' => ∃ (a : Option Addr) (m c : Nat) (l : List Item) (k : Int), e = .returned (.tuple #[.slice a m c, .int .i64 k]) ∧ l.length ≤ 81 ∧ ItemsAt w' (.slice a m c) l ∧ Below w.heap.size w w' := by
  have HV := Lib.hid hv
  have Hin := Lib.hid hin
  have Hcl := Lib.hid hl
  clear hv hin hl
  go_enter Tryz.func31, Tryz.ntmps31
  go_wp2_with fail
  refine (l00From_c v cs w HV.out Hin.out Hcl.out).mono ?_
  rintro e w1 ⟨rfl, hsrc, hb1⟩
  have hs1 := hb1.size
  have hbl := hsrc.lt
  have HB1 := Lib.hid hb1
  have HS := Lib.hid hsrc
  clear hsrc hb1
  generalize hB : w.heap.size = b at *
  have HhB := Lib.hid hB
  clear hB
  go_wp2_with fail
  refine (l22Bent_c b 0 w1 HS.out (by omega)).mono ?_
  rintro e w2 ⟨a, m, c, ps, rfl, hps, ho, hd⟩
  have HPs := Lib.hid hps
  have hml := ho.len
  have Hml := Lib.hid hml
  have hm81 : m ≤ 81 := by have := hps.1; omega
  have HO := Lib.hid ho
  have HD := Lib.hid hd
  clear hps ho hd hml HS
  go_wp2_with fail
  refine (pick_c b _ 6 _ HD.out.1 (by omega) (by omega)).mono ?_
  rintro e w3 ⟨r, rfl, hr, hd⟩
  have hr5 : r ≤ 5 := by omega
  clear hr
  replace HO := Lib.hid (HO.out.drew hd hbl)
  replace HD := Lib.hid (HD.out.trans hd)
  clear hd
  go_wp2_with fail
  refine (one_c b _ 10 _ HD.out.1 (by omega) (by omega)).mono ?_
  rintro e w4 ⟨d, rfl, hd⟩
  replace HO := Lib.hid (HO.out.drew hd hbl)
  replace HD := Lib.hid (HD.out.trans hd)
  clear hd
  cases d
  · skip
    have H3 : Hid (Below b w w4) := Lib.hid (HB1.out.trans (HD.out.below hs1))
    have HO7 := Lib.hid (RowI.at HO.out)
    have Hl81 : Hid ((ps.map (·.2)).length ≤ 81) := Lib.hid (by rw [List.length_map]; exact HPs.out.1)
    clear HO HD HPs Hml
    go_wp2
    go_ret2
    exact ⟨a, m, c, _, (r : Int), rfl, Hl81.out, HO7.out, by rw [HhB.out]; exact H3.out⟩
  · go_wp2_with fail
    have hl4 := ints_lit (w := w4) [-1, 0, 15, 16] 4 rfl w4.heap.size rfl (by decide)
    have hbA : Below w4.heap.size w4 (w4.alloc (.cells (([-1, 0, 15, 16] : List Int).map (Value.int .i64)).toArray 2)) := by go_grown
    replace HO := Lib.hid (HO.out.below hbA)
    have hs4 := HD.out.2.size
    replace HD := Lib.hid (HD.out.then_below hbA)
    refine (among_c b _ _ [-1, 0, 15, 16] _ HD.out.1 (by omega) hl4 (by decide) (by decide) (fun b' o m c e => by injection e with e1; injection e1 with e1; injection e1 with e1; omega)).mono ?_
    rintro e w5 ⟨r4, hr4, rfl, hd⟩
    clear hl4 hbA hr4
    replace HO := Lib.hid (HO.out.drew hd hbl)
    replace HD := Lib.hid (HD.out.trans hd)
    clear hd
    generalize nth ([-1, 0, 15, 16] : List Int) r4 = v0 at *
    have H3 : Hid (Below b w w5) := Lib.hid (HB1.out.trans (HD.out.below hs1))
    have HO7 := Lib.hid (RowI.at HO.out)
    have Hl81 : Hid ((ps.map (·.2)).length ≤ 81) := Lib.hid (by rw [List.length_map]; exact HPs.out.1)
    clear HO HD HPs Hml
    go_wp2
    go_ret2
    exact ⟨a, m, c, _, v0, rfl, Hl81.out, HO7.out, by rw [HhB.out]; exact H3.out⟩
set_option maxRecDepth 100000 in
set_option maxHeartbeats 2000000 in
theorem drawAddItem_c (v : Value) (cs : List Int) (w : World) (hv : BytesAt w v cs) (hin : ∀ x ∈ cs, 0 ≤ x ∧ x ≤ 255) (hl : cs.length ≤ 4096) : Calls Tryz.prog 6 #[v] w fun e w' => ∃ (a : Option Addr) (m c : Nat) (l : List Item) (s : ByteArray) (pa : Option Addr) (pn pc : Nat) (p : List Int), e = .returned (.tuple #[.slice a m c, .string s, .slice pa pn pc]) ∧ l.length ≤ 81 ∧ ItemsAt w' (.slice a m c) l ∧ s.size ≤ 7 ∧ IntsAt w' (.slice pa pn pc) p ∧ Below w.heap.size w w' := by
  have HV := Lib.hid hv
  have Hin := Lib.hid hin
  have Hcl := Lib.hid hl
  clear hv hin hl
  go_enter Tryz.func6, Tryz.ntmps6
  go_wp2_with fail
  refine (l00From_c v cs w HV.out Hin.out Hcl.out).mono ?_
  rintro e w1 ⟨rfl, hsrc, hb1⟩
  have hs1 := hb1.size
  have hbl := hsrc.lt
  have HB1 := Lib.hid hb1
  have HS := Lib.hid hsrc
  clear hsrc hb1
  generalize hB : w.heap.size = b at *
  have HhB := Lib.hid hB
  clear hB
  go_wp2_with fail
  refine (l22Bent_c b 0 w1 HS.out (by omega)).mono ?_
  rintro e w2 ⟨a, m, c, ps, rfl, hps, ho, hd⟩
  have HPs := Lib.hid hps
  have hml := ho.len
  have Hml := Lib.hid hml
  have hm81 : m ≤ 81 := by have := hps.1; omega
  have HO := Lib.hid ho
  have HD := Lib.hid hd
  clear hps ho hd hml HS
  go_wp2_with fail
  refine (l22Name_c b _ w2 HD.out.1 (by omega)).mono ?_
  rintro e w3 ⟨s, hs, rfl, hd⟩
  replace HO := Lib.hid (HO.out.drew hd hbl)
  replace HD := Lib.hid (HD.out.trans hd)
  clear hd
  go_wp2_with fail
  refine (one_c b _ 3 _ HD.out.1 (by omega) (by omega)).mono ?_
  rintro e w4 ⟨d, rfl, hd⟩
  replace HO := Lib.hid (HO.out.drew hd hbl)
  replace HD := Lib.hid (HD.out.trans hd)
  clear hd
  cases d
  · go_wp2_with fail
    refine (l02Bent_c b _ w4 HD.out.1 (by omega)).mono ?_
    rintro e w5 ⟨pa, pn, pc, lp, rfl, hl13, hol, hd⟩
    have HP := Lib.hid (OwnInts.at hol)
    clear hol
    replace HO := Lib.hid (HO.out.drew hd hbl)
    replace HD := Lib.hid (HD.out.trans hd)
    clear hd
    have H3 : Hid (Below b w w5) := Lib.hid (HB1.out.trans (HD.out.below hs1))
    have HO7 := Lib.hid (RowI.at HO.out)
    have Hl81 : Hid ((ps.map (·.2)).length ≤ 81) := Lib.hid (by rw [List.length_map]; exact HPs.out.1)
    clear HO HD HPs Hml
    go_wp2
    go_ret3
    exact ⟨_, _, _, _, s, pa, pn, pc, _, rfl, Hl81.out, HO7.out, hs, HP.out, by rw [HhB.out]; exact H3.out⟩
  · go_wp2_with fail
    refine (sStandardItems_c w4).mono ?_
    rintro e w5 ⟨sa, sn, sc, rfl, ho5, hb5⟩
    obtain ⟨qs, hqs, hq⟩ := RowI.of ho5
    have hs4 := HD.out.2.size
    replace HO := Lib.hid (HO.out.below hb5)
    replace HD := Lib.hid (HD.out.then_below hb5)
    have hql : qs.length = 10 := by rw [← List.length_map (f := (·.2)), hqs]; rfl
    have hsn := hq.len
    rw [hql] at hsn
    subst hsn
    obtain ⟨G, hG, hG1, hG2⟩ := hq.head (by decide)
    subst hG
    have HQ := Lib.hid hq
    have Hql := Lib.hid hql
    have Hsl := Lib.hid (fun (i : Nat) (hi : i < 10) => (hq.2 _ (mem_nth (l := qs) (i := i) (by omega))).1)
    have HQc : Hid (∀ i, i < 10 → w5.cell? ⟨G, i * 2 + 1, none⟩ = some (nth qs i).1) := Lib.hid (fun i hi => (hq.cell (by omega) 1 (by decide)).1)
    clear ho5 hb5 hqs hq hql
    go_wp2
    refine wp_region_held_drew (S := fun w' => ∀ i, i < 10 → w'.cell? ⟨G, i * 2 + 1, none⟩ = some (nth qs i).1) (by kernel_rfl) (by exact (fun i hi => cell_then (World.block_lt_of_cell? _ _ (HQc.out i hi)) (HQc.out i hi) (Below.refl _ _).drew)) (fun hHeld => ?_)
    refine wpAnyH_take (i := 0) (oi := ⟨_, _, _, _, _, _⟩) (v := ?_) rfl (by kernel_rfl) (by kernel_rfl) (by kernel_rfl) (fun _ _ _ h => h) (Or.inl ⟨by rfl, ?_⟩) (by assumption) ?_; rotate_left; (focus (intro w hSw; (try dsimp only at hSw); go_simp; try with_reducible rfl)); (try simp only [Act.put, List.setIfInBounds_toArray, List.set_cons_zero, List.set_cons_succ])
    refine wpAnyH_take (i := 1) (oi := ⟨_, _, _, _, _, _⟩) (v := ?_) rfl (by kernel_rfl) (by kernel_rfl) (by kernel_rfl) (fun _ _ _ h => h) (Or.inl ⟨by rfl, ?_⟩) (by assumption) ?_; rotate_left; (focus (intro w hSw; (try dsimp only at hSw); go_simp; try with_reducible rfl)); (try simp only [Act.put, List.setIfInBounds_toArray, List.set_cons_zero, List.set_cons_succ])
    refine wpAnyH_take (i := 2) (oi := ⟨_, _, _, _, _, _⟩) (v := ?_) rfl (by kernel_rfl) (by kernel_rfl) (by kernel_rfl) (fun _ _ _ h => h) (Or.inl ⟨by rfl, ?_⟩) (by assumption) ?_; rotate_left; (focus (intro w hSw; (try dsimp only at hSw); go_simp; try with_reducible rfl)); (try simp only [Act.put, List.setIfInBounds_toArray, List.set_cons_zero, List.set_cons_succ])
    refine wpAnyH_take (i := 3) (oi := ⟨_, _, _, _, _, _⟩) (v := ?_) rfl (by kernel_rfl) (by kernel_rfl) (by kernel_rfl) (fun _ _ _ h => h) (Or.inl ⟨by rfl, ?_⟩) (by assumption) ?_; rotate_left; (focus (intro w hSw; (try dsimp only at hSw); go_simp; try with_reducible rfl)); (try simp only [Act.put, List.setIfInBounds_toArray, List.set_cons_zero, List.set_cons_succ])
    refine wpAnyH_take (i := 4) (oi := ⟨_, _, _, _, _, _⟩) (v := ?_) rfl (by kernel_rfl) (by kernel_rfl) (by kernel_rfl) (fun _ _ _ h => h) (Or.inl ⟨by rfl, ?_⟩) (by assumption) ?_; rotate_left; (focus (intro w hSw; (try dsimp only at hSw); go_simp; try with_reducible rfl)); (try simp only [Act.put, List.setIfInBounds_toArray, List.set_cons_zero, List.set_cons_succ])
    refine wpAnyH_take (i := 5) (oi := ⟨_, _, _, _, _, _⟩) (v := ?_) rfl (by kernel_rfl) (by kernel_rfl) (by kernel_rfl) (fun _ _ _ h => h) (Or.inl ⟨by rfl, ?_⟩) (by assumption) ?_; rotate_left; (focus (intro w hSw; (try dsimp only at hSw); go_simp; try with_reducible rfl)); (try simp only [Act.put, List.setIfInBounds_toArray, List.set_cons_zero, List.set_cons_succ])
    refine wpAnyH_ready (rs := [6]) (by kernel_rfl) (by simp) ?_
    refine AllReadyH.cons (o := ⟨_, _, _, _, _, _⟩) rfl (fun K hK => ?_) AllReadyH.nil
    go_simp
    go_at_call 45; refine (pick_c b _ 10 _ (HD.out.1.below (Below.refl _ _).drew) (by omega) (by omega)).mono ?_; rintro e w6 ⟨r, rfl, hr, hd⟩; have hr9 : r ≤ 9 := (by omega); have hr10 : (r : Int) < 10 := (by omega); clear hr; have HQ6 := Lib.hid ((HQ.out.below (Below.refl _ _).drew).drew hd (by omega)); have hS' : ∀ i, i < 10 → w6.cell? ⟨G, i * 2 + 1, none⟩ = some (nth qs i).1 := (fun i hi => (HQ6.out.cell (by have := Hql.out; omega) 1 (by decide)).1); have t9 := hS' r (by omega); have HP9 := Lib.hid (HQ6.out.2 _ (mem_nth (l := qs) (i := r) (by have := Hql.out; omega))); obtain ⟨xa, xn, xc, hxe⟩ := Hsl.out r (by omega); rw [hxe] at t9; have HPI : Hid (IntsAt w6 (.slice xa xn xc) (nth qs r).2.pattern) := Lib.hid (hxe ▸ HP9.out.2.1)
    refine hK.out _ _ (by exact hS') (fun hHeld' => ?_)
    clear hHeld hK K
    have hHeld := hHeld'
    clear hHeld'
    try simp only [Act.put, List.setIfInBounds_toArray, List.set_cons_zero, List.set_cons_succ]
    refine wpAnyH_take (i := 7) (oi := ⟨_, _, _, _, _, _⟩) (v := ?_) rfl (by kernel_rfl) (by kernel_rfl) (by kernel_rfl) (fun _ _ _ h => h) (Or.inl ⟨by rfl, ?_⟩) (by assumption) ?_; rotate_left; (focus (intro w hSw; (try dsimp only at hSw); go_simp; try with_reducible rfl)); (try simp only [Act.put, List.setIfInBounds_toArray, List.set_cons_zero, List.set_cons_succ])
    refine wpAnyH_take (i := 8) (oi := ⟨_, _, _, _, _, _⟩) (v := ?_) rfl (by kernel_rfl) (by kernel_rfl) (by kernel_rfl) (fun _ _ _ h => h) (Or.inl ⟨by rfl, ?_⟩) (by assumption) ?_; rotate_left; (focus (intro w hSw; (try dsimp only at hSw); go_simp; try with_reducible rfl)); (try simp only [Act.put, List.setIfInBounds_toArray, List.set_cons_zero, List.set_cons_succ])
    refine wpAnyH_take (i := 9) (oi := ⟨_, _, _, _, _, _⟩) (v := ?_) rfl (by kernel_rfl) (by kernel_rfl) (by kernel_rfl) (fun _ _ _ h => h) (Or.inl ⟨by rfl, ?_⟩) (by assumption) ?_; rotate_left; (focus (intro w hSw; (try dsimp only at hSw); have t0 := hSw r (by omega); rw [hxe] at t0; go_simp; try with_reducible rfl)); (try simp only [Act.put, List.setIfInBounds_toArray, List.set_cons_zero, List.set_cons_succ])
    refine wpAnyH_take (i := 10) (oi := ⟨_, _, _, _, _, _⟩) (v := ?_) rfl (by kernel_rfl) (by kernel_rfl) (by kernel_rfl) (fun _ _ _ h => h) (Or.inl ⟨by rfl, ?_⟩) (by assumption) ?_; rotate_left; (focus (intro w hSw; (try dsimp only at hSw); go_simp; try with_reducible rfl)); (try simp only [Act.put, List.setIfInBounds_toArray, List.set_cons_zero, List.set_cons_succ])
    refine wpAnyH_take (i := 11) (oi := ⟨_, _, _, _, _, _⟩) (v := ?_) rfl (by kernel_rfl) (by kernel_rfl) (by kernel_rfl) (fun _ _ _ h => h) (Or.inl ⟨by rfl, ?_⟩) (by assumption) ?_; rotate_left; (focus (intro w hSw; (try dsimp only at hSw); go_simp; try with_reducible rfl)); (try simp only [Act.put, List.setIfInBounds_toArray, List.set_cons_zero, List.set_cons_succ])
    refine wpAnyH_take (i := 12) (oi := ⟨_, _, _, _, _, _⟩) (v := ?_) rfl (by kernel_rfl) (by kernel_rfl) (by kernel_rfl) (fun _ _ _ h => h) (Or.inl ⟨by rfl, ?_⟩) (by assumption) ?_; rotate_left; (focus (intro w hSw; (try dsimp only at hSw); go_simp; try with_reducible rfl)); (try simp only [Act.put, List.setIfInBounds_toArray, List.set_cons_zero, List.set_cons_succ])
    refine wpAnyH_done (by kernel_rfl) ?_ _
    replace HD : Hid (Drew b (0 + 3000 + 4 + 2 + 2) w1 w6) := Lib.hid ((HD.out.then_below (Below.refl _ _).drew).trans hd)
    replace HO := Lib.hid ((HO.out.below (Below.refl _ _).drew).drew hd hbl)
    clear hd hHeld t9 HP9 HQ6 hxe HQ HQc Hsl hr9 hr10
    have H3 : Hid (Below b w w6) := Lib.hid (HB1.out.trans (HD.out.below hs1))
    have HO7 := Lib.hid (RowI.at HO.out)
    have Hl81 : Hid ((ps.map (·.2)).length ≤ 81) := Lib.hid (by rw [List.length_map]; exact HPs.out.1)
    clear HO HD HPs Hml
    go_wp2
    go_ret3
    exact ⟨_, _, _, _, s, xa, xn, xc, _, rfl, Hl81.out, HO7.out, hs, HPI.out, by rw [HhB.out]; exact H3.out⟩
set_option maxHeartbeats 4000000 in
set_option maxRecDepth 100000 in
set_option maxHeartbeats 2000000 in
theorem drawNameOf_c (v : Value) (cs : List Int) (w : World) (hv : BytesAt w v cs) (hin : ∀ x ∈ cs, 0 ≤ x ∧ x ≤ 255) (hl : cs.length ≤ 4096) : Calls Tryz.prog 12 #[v] w fun e w' => ∃ (a : Option Addr) (m c : Nat) (l : List Item) (pa : Option Addr) (pn pc : Nat) (p : List Int), e = .returned (.tuple #[.slice a m c, .slice pa pn pc]) ∧ l.length ≤ 81 ∧ ItemsAt w' (.slice a m c) l ∧ IntsAt w' (.slice pa pn pc) p ∧ Below w.heap.size w w' := by
  have HV := Lib.hid hv
  have Hin := Lib.hid hin
  have Hcl := Lib.hid hl
  clear hv hin hl
  go_enter Tryz.func12, Tryz.ntmps12
  go_wp2_with fail
  refine (l00From_c v cs w HV.out Hin.out Hcl.out).mono ?_
  rintro e w1 ⟨rfl, hsrc, hb1⟩
  have hs1 := hb1.size
  have hbl := hsrc.lt
  have HB1 := Lib.hid hb1
  have HS := Lib.hid hsrc
  clear hsrc hb1
  generalize hB : w.heap.size = b at *
  have HhB := Lib.hid hB
  clear hB
  go_wp2_with fail
  refine (l22Bent_c b 0 w1 HS.out (by omega)).mono ?_
  rintro e w2 ⟨a, m, c, ps, rfl, hps, ho, hd⟩
  have HPs := Lib.hid hps
  have hml := ho.len
  have Hml := Lib.hid hml
  have hm81 : m ≤ 81 := by have := hps.1; omega
  have HO := Lib.hid ho
  have HD := Lib.hid hd
  clear hps ho hd hml HS
  by_cases hm0 : m = 0
  · subst hm0
    go_wp2_with fail
    refine (l02Bent_c b _ w2 HD.out.1 (by omega)).mono ?_
    rintro e w5 ⟨pa, pn, pc, lp, rfl, hl13, hol, hd⟩
    have HP := Lib.hid (OwnInts.at hol)
    clear hol
    replace HO := Lib.hid (HO.out.drew hd hbl)
    replace HD := Lib.hid (HD.out.trans hd)
    clear hd
    have H3 : Hid (Below b w w5) := Lib.hid (HB1.out.trans (HD.out.below hs1))
    have HO7 := Lib.hid (RowI.at HO.out)
    have Hl81 : Hid ((ps.map (·.2)).length ≤ 81) := Lib.hid (by rw [List.length_map]; exact HPs.out.1)
    clear HO HD HPs Hml
    go_wp2
    go_ret2
    exact ⟨_, _, _, _, pa, pn, pc, _, rfl, Hl81.out, HO7.out, HP.out, by rw [HhB.out]; exact H3.out⟩
  have hmp : 0 < m := by omega
  obtain ⟨g, rfl, hg, hgl⟩ := HO.out.head hmp
  clear hgl
  have hmd : decide (0 < m) = true := decide_eq_true hmp
  go_wp2_with fail
  refine (one_c b _ 2 _ HD.out.1 (by omega) (by omega)).mono ?_
  rintro e w3 ⟨d, rfl, hd⟩
  replace HO := Lib.hid (HO.out.drew hd hbl)
  replace HD := Lib.hid (HD.out.trans hd)
  clear hd
  cases d
  · clear hmd
    go_wp2_with fail
    refine (l02Bent_c b _ w3 HD.out.1 (by omega)).mono ?_
    rintro e w5 ⟨pa, pn, pc, lp, rfl, hl13, hol, hd⟩
    have HP := Lib.hid (OwnInts.at hol)
    clear hol
    replace HO := Lib.hid (HO.out.drew hd hbl)
    replace HD := Lib.hid (HD.out.trans hd)
    clear hd
    have H3 : Hid (Below b w w5) := Lib.hid (HB1.out.trans (HD.out.below hs1))
    have HO7 := Lib.hid (RowI.at HO.out)
    have Hl81 : Hid ((ps.map (·.2)).length ≤ 81) := Lib.hid (by rw [List.length_map]; exact HPs.out.1)
    clear HO HD HPs Hml
    go_wp2
    go_ret2
    exact ⟨_, _, _, _, pa, pn, pc, _, rfl, Hl81.out, HO7.out, HP.out, by rw [HhB.out]; exact H3.out⟩
  · go_wp2_with fail
    refine (pick_c b _ (m : Int) _ HD.out.1 (by omega) (by omega)).mono ?_
    rintro e w4 ⟨r, rfl, hr, hd⟩
    have hrm : r < m := by omega
    clear hr
    replace HO := Lib.hid (HO.out.drew hd hbl)
    replace HD := Lib.hid (HD.out.trans hd)
    clear hd
    have hrl : r < ps.length := by have := Hml.out; omega
    have hpt := HO.out.2 _ (mem_nth hrl)
    obtain ⟨xa, xn, xc, hxe⟩ := hpt.1
    have hcell := (HO.out.cell hrl 1 (by decide)).1
    have hcell : w4.cell? ⟨g, r * 2 + 1, none⟩ = some (nth ps r).1 := hcell
    rw [hxe] at hcell
    have HCell := Lib.hid hcell
    have Hxe := Lib.hid hxe
    have HPI : Hid (IntsAt w4 (.slice xa xn xc) (nth ps r).2.pattern) := Lib.hid (hxe ▸ hpt.2.1)
    have Hrl := Lib.hid hrl
    clear hpt hcell hxe hrl
    go_wp2
    refine wp_region_held_drew (S := fun w' => w'.cell? ⟨g, r * 2 + 1, none⟩ = some (.slice xa xn xc)) (by kernel_rfl) (by exact (cell_then (World.block_lt_of_cell? _ _ HCell.out) HCell.out (Below.refl _ _).drew)) (fun hHeld => ?_)
    refine wpAnyH_take (i := 0) (oi := ⟨_, _, _, _, _, _⟩) (v := ?_) rfl (by kernel_rfl) (by kernel_rfl) (by kernel_rfl) (fun _ _ _ h => h) (Or.inl ⟨by rfl, ?_⟩) (by assumption) ?_; rotate_left; (focus (intro w hSw; (try dsimp only at hSw); go_simp; try with_reducible rfl)); (try simp only [Act.put, List.setIfInBounds_toArray, List.set_cons_zero, List.set_cons_succ])
    refine wpAnyH_take (i := 1) (oi := ⟨_, _, _, _, _, _⟩) (v := ?_) rfl (by kernel_rfl) (by kernel_rfl) (by kernel_rfl) (fun _ _ _ h => h) (Or.inl ⟨by rfl, ?_⟩) (by assumption) ?_; rotate_left; (focus (intro w hSw; (try dsimp only at hSw); go_simp; try with_reducible rfl)); (try simp only [Act.put, List.setIfInBounds_toArray, List.set_cons_zero, List.set_cons_succ])
    refine wpAnyH_take (i := 2) (oi := ⟨_, _, _, _, _, _⟩) (v := ?_) rfl (by kernel_rfl) (by kernel_rfl) (by kernel_rfl) (fun _ _ _ h => h) (Or.inl ⟨by rfl, ?_⟩) (by assumption) ?_; rotate_left; (focus (intro w hSw; (try dsimp only at hSw); go_simp; try with_reducible rfl)); (try simp only [Act.put, List.setIfInBounds_toArray, List.set_cons_zero, List.set_cons_succ])
    refine wpAnyH_take (i := 3) (oi := ⟨_, _, _, _, _, _⟩) (v := ?_) rfl (by kernel_rfl) (by kernel_rfl) (by kernel_rfl) (fun _ _ _ h => h) (Or.inl ⟨by rfl, ?_⟩) (by assumption) ?_; rotate_left; (focus (intro w hSw; (try dsimp only at hSw); go_simp; try with_reducible rfl)); (try simp only [Act.put, List.setIfInBounds_toArray, List.set_cons_zero, List.set_cons_succ])
    refine wpAnyH_take (i := 4) (oi := ⟨_, _, _, _, _, _⟩) (v := ?_) rfl (by kernel_rfl) (by kernel_rfl) (by kernel_rfl) (fun _ _ _ h => h) (Or.inl ⟨by rfl, ?_⟩) (by assumption) ?_; rotate_left; (focus (intro w hSw; (try dsimp only at hSw); have t0 := hSw; go_simp; try with_reducible rfl)); (try simp only [Act.put, List.setIfInBounds_toArray, List.set_cons_zero, List.set_cons_succ])
    refine wpAnyH_take (i := 5) (oi := ⟨_, _, _, _, _, _⟩) (v := ?_) rfl (by kernel_rfl) (by kernel_rfl) (by kernel_rfl) (fun _ _ _ h => h) (Or.inl ⟨by rfl, ?_⟩) (by assumption) ?_; rotate_left; (focus (intro w hSw; (try dsimp only at hSw); go_simp; try with_reducible rfl)); (try simp only [Act.put, List.setIfInBounds_toArray, List.set_cons_zero, List.set_cons_succ])
    refine wpAnyH_ready (rs := [6]) (by kernel_rfl) (by simp) ?_
    refine AllReadyH.cons (o := ⟨_, _, _, _, _, _⟩) rfl (fun K hK => ?_) AllReadyH.nil
    go_simp
    go_at_call 45; refine (pick_c b _ 6 _ (HD.out.1.below (Below.refl _ _).drew) (by omega) (by omega)).mono ?_; rintro e w6 ⟨t, rfl, ht, hd⟩; have ht5 : t ≤ 5 := (by omega); clear ht; have HO6 := Lib.hid ((HO.out.below (Below.refl _ _).drew).drew hd hbl); have HD6 := Lib.hid ((HD.out.then_below (Below.refl _ _).drew).trans hd); have hS' : w6.cell? ⟨g, r * 2 + 1, none⟩ = some (.slice xa xn xc) := Hxe.out ▸ (HO6.out.cell Hrl.out 1 (by decide)).1; have HP6 : Hid (IntsAt w6 (.slice xa xn xc) (nth ps r).2.pattern) := Lib.hid (Hxe.out ▸ (HO6.out.2 _ (mem_nth Hrl.out)).2.1); clear hd
    refine hK.out _ _ (by exact hS') (fun hHeld' => ?_)
    clear hHeld hK K
    have hHeld := hHeld'
    clear hHeld'
    try simp only [Act.put, List.setIfInBounds_toArray, List.set_cons_zero, List.set_cons_succ]
    refine wpAnyH_ready (rs := [7]) (by kernel_rfl) (by simp) ?_
    refine AllReadyH.cons (o := ⟨_, _, _, _, _, _⟩) rfl (fun K hK => ?_) AllReadyH.nil
    go_simp
    go_at_call 18; refine (rotatePatternA_c _ _ t w6 HP6.out (by omega)).mono ?_; rintro e w7 ⟨ta, tn, tc, rfl, ho7, hb7⟩; have HO7r := Lib.hid (OwnInts.at ho7); have HO7b := Lib.hid (HO6.out.below hb7); have HD7 := Lib.hid (HD6.out.then_below hb7); have hS' : w7.cell? ⟨g, r * 2 + 1, none⟩ = some (.slice xa xn xc) := cell_then (World.block_lt_of_cell? _ _ hHeld) hHeld hb7; clear ho7 hb7
    refine hK.out _ _ (by exact hS') (fun hHeld' => ?_)
    clear hHeld hK K
    have hHeld := hHeld'
    clear hHeld'
    try simp only [Act.put, List.setIfInBounds_toArray, List.set_cons_zero, List.set_cons_succ]
    refine wpAnyH_take (i := 8) (oi := ⟨_, _, _, _, _, _⟩) (v := ?_) rfl (by kernel_rfl) (by kernel_rfl) (by kernel_rfl) (fun _ _ _ h => h) (Or.inl ⟨by rfl, ?_⟩) (by assumption) ?_; rotate_left; (focus (intro w hSw; (try dsimp only at hSw); go_simp; try with_reducible rfl)); (try simp only [Act.put, List.setIfInBounds_toArray, List.set_cons_zero, List.set_cons_succ])
    refine wpAnyH_take (i := 9) (oi := ⟨_, _, _, _, _, _⟩) (v := ?_) rfl (by kernel_rfl) (by kernel_rfl) (by kernel_rfl) (fun _ _ _ h => h) (Or.inl ⟨by rfl, ?_⟩) (by assumption) ?_; rotate_left; (focus (intro w hSw; (try dsimp only at hSw); go_simp; try with_reducible rfl)); (try simp only [Act.put, List.setIfInBounds_toArray, List.set_cons_zero, List.set_cons_succ])
    refine wpAnyH_take (i := 10) (oi := ⟨_, _, _, _, _, _⟩) (v := ?_) rfl (by kernel_rfl) (by kernel_rfl) (by kernel_rfl) (fun _ _ _ h => h) (Or.inl ⟨by rfl, ?_⟩) (by assumption) ?_; rotate_left; (focus (intro w hSw; (try dsimp only at hSw); go_simp; try with_reducible rfl)); (try simp only [Act.put, List.setIfInBounds_toArray, List.set_cons_zero, List.set_cons_succ])
    refine wpAnyH_take (i := 11) (oi := ⟨_, _, _, _, _, _⟩) (v := ?_) rfl (by kernel_rfl) (by kernel_rfl) (by kernel_rfl) (fun _ _ _ h => h) (Or.inl ⟨by rfl, ?_⟩) (by assumption) ?_; rotate_left; (focus (intro w hSw; (try dsimp only at hSw); go_simp; try with_reducible rfl)); (try simp only [Act.put, List.setIfInBounds_toArray, List.set_cons_zero, List.set_cons_succ])
    refine wpAnyH_take (i := 12) (oi := ⟨_, _, _, _, _, _⟩) (v := ?_) rfl (by kernel_rfl) (by kernel_rfl) (by kernel_rfl) (fun _ _ _ h => h) (Or.inl ⟨by rfl, ?_⟩) (by assumption) ?_; rotate_left; (focus (intro w hSw; (try dsimp only at hSw); go_simp; try with_reducible rfl)); (try simp only [Act.put, List.setIfInBounds_toArray, List.set_cons_zero, List.set_cons_succ])
    refine wpAnyH_done (by kernel_rfl) ?_ _
    clear HO HD HO6 HD6 HP6 hHeld HCell HPI Hxe Hrl
    have HO := HO7b
    have HD := HD7
    have HPF := HO7r
    clear HO7b HD7 HO7r
    generalize turnL (nth ps r).2.pattern t = tl at *
    generalize turnC (nth ps r).2.pattern = tcode at *
    by_cases htc : tcode = 0
    · subst htc
      have H3 : Hid (Below b w w7) := Lib.hid (HB1.out.trans (HD.out.below hs1))
      have HO7 := Lib.hid (RowI.at HO.out)
      have Hl81 : Hid ((ps.map (·.2)).length ≤ 81) := Lib.hid (by rw [List.length_map]; exact HPs.out.1)
      clear HO HD HPs Hml
      go_wp2
      go_ret2
      exact ⟨_, _, _, _, ta, tn, tc, _, rfl, Hl81.out, HO7.out, HPF.out, by rw [HhB.out]; exact H3.out⟩
    · have htb : (tcode == 0) = false := beq_eq_false_iff_ne.2 htc
      clear htc HPF
      go_wp2_with fail
      refine (l02Bent_c b _ w7 HD.out.1 (by omega)).mono ?_
      rintro e w8 ⟨pa, pn, pc, lp, rfl, hl13, hol, hd⟩
      have HP := Lib.hid (OwnInts.at hol)
      clear hol
      replace HO := Lib.hid (HO.out.drew hd hbl)
      replace HD := Lib.hid (HD.out.trans hd)
      clear hd
      have H3 : Hid (Below b w w8) := Lib.hid (HB1.out.trans (HD.out.below hs1))
      have HO7 := Lib.hid (RowI.at HO.out)
      have Hl81 : Hid ((ps.map (·.2)).length ≤ 81) := Lib.hid (by rw [List.length_map]; exact HPs.out.1)
      clear HO HD HPs Hml
      go_wp2
      go_ret2
      exact ⟨_, _, _, _, pa, pn, pc, _, rfl, Hl81.out, HO7.out, HP.out, by rw [HhB.out]; exact H3.out⟩
set_option maxRecDepth 100000 in
set_option maxHeartbeats 2000000 in
theorem drawReadItems_c (v : Value) (cs : List Int) (w : World) (hv : BytesAt w v cs) (hin : ∀ x ∈ cs, 0 ≤ x ∧ x ≤ 255) (hl : cs.length ≤ 4096) : Calls Tryz.prog 29 #[v] w fun e w' => ∃ s : ByteArray, e = .returned (.string s) ∧ s.size ≤ 2801 ∧ Below w.heap.size w w' := by
  have HV := Lib.hid hv
  have Hin := Lib.hid hin
  have Hcl := Lib.hid hl
  clear hv hin hl
  go_enter Tryz.func29, Tryz.ntmps29
  go_wp2_with fail
  refine (l00From_c v cs w HV.out Hin.out Hcl.out).mono ?_
  rintro e w1 ⟨rfl, hsrc, hb1⟩
  have hs1 := hb1.size
  have hbl := hsrc.lt
  have HB1 := Lib.hid hb1
  have HS := Lib.hid hsrc
  clear hsrc hb1
  generalize hB : w.heap.size = b at *
  have HhB := Lib.hid hB
  clear hB
  go_wp2_with fail
  refine (l22Draw_c b 0 w1 HS.out (by omega)).mono ?_
  rintro e w2 ⟨a, m, c, ps, rfl, hps, ho, hd⟩
  have HD := Lib.hid hd
  have HI := Lib.hid ho.at
  have HTx : Hid (TxI (ps.map (·.2))) := Lib.hid ⟨by rw [List.length_map]; exact hps.1, fun x hx => by
    obtain ⟨q, hq, rfl⟩ := List.mem_map.1 hx
    exact hps.2 q hq⟩
  clear hps ho hd HS
  go_wp2_with fail
  refine (l22TextS_c _ _ w2 HI.out HTx.out).mono ?_
  rintro e w3 ⟨rfl, hb⟩
  have hsz : (strOfNums (itemsCh (ps.map (·.2)))).size ≤ 2800 := by
    rw [strOfNums_size]
    have h1 := itemsChS_len HTx.out _ (Nat.le_refl _)
    rw [List.take_length] at h1
    have := HTx.out.1
    omega
  replace HD := Lib.hid (HD.out.then_below hb)
  clear hb HI HTx
  generalize strOfNums (itemsCh (ps.map (·.2))) = t at *
  go_wp2_with fail
  refine (one_c b _ 24 _ HD.out.1 (by omega) (by omega)).mono ?_
  rintro e w4 ⟨d, rfl, hd⟩
  replace HD := Lib.hid (HD.out.trans hd)
  clear hd
  cases d
  · go_wp2_with fail
    refine (one_c b _ 3 _ HD.out.1 (by omega) (by omega)).mono ?_
    rintro e w5 ⟨d2, rfl, hd⟩
    replace HD := Lib.hid (HD.out.trans hd)
    clear hd
    cases d2
    · have H3 : Hid (Below b w w5) := Lib.hid (HB1.out.trans (HD.out.below hs1))
      clear HD
      go_wp2
      go_ret
      exact ⟨t, rfl, by omega, by rw [HhB.out]; exact H3.out⟩
    · go_wp2_with fail
      refine (l01Spoil_c b _ t w5 HD.out.1 (by omega) (by omega)).mono ?_
      rintro e w6 ⟨t6, rfl, ht6, hd⟩
      have H3 : Hid (Below b w w6) := Lib.hid (HB1.out.trans ((HD.out.trans hd).below hs1))
      clear HD hd
      go_wp2
      go_ret
      exact ⟨t6, rfl, by omega, by rw [HhB.out]; exact H3.out⟩
  · go_wp2_with fail
    refine (pick_c b _ 2 _ HD.out.1 (by omega) (by omega)).mono ?_
    rintro e w5 ⟨r, rfl, hr, hd⟩
    have hr1 : r ≤ 1 := by omega
    replace HD := Lib.hid (HD.out.trans hd)
    clear hd hr
    have hwr : IntKind.i64.wrap (60 + (r : Int)) = 60 + (r : Int) := IntWalk.i64_in _ (by omega)
    go_wp2_with fail
    refine (l22Wide_c (60 + (r : Int)) w5 (by omega) (by omega)).mono ?_
    rintro e w6 ⟨a, m, c, qs, rfl, hps, ho, hb⟩
    have HI := Lib.hid ho.at
    have HTx : Hid (TxI (qs.map (·.2))) := Lib.hid ⟨by rw [List.length_map]; have := hps.1; omega, fun x hx => by
      obtain ⟨q, hq, rfl⟩ := List.mem_map.1 hx
      exact hps.2 q hq⟩
    replace HD := Lib.hid (HD.out.then_below hb)
    clear hps ho hb hwr
    go_wp2_with fail
    refine (l22TextS_c _ _ w6 HI.out HTx.out).mono ?_
    rintro e w7 ⟨rfl, hb⟩
    have hsz2 : (strOfNums (itemsCh (qs.map (·.2)))).size ≤ 2800 := by
      rw [strOfNums_size]
      have h1 := itemsChS_len HTx.out _ (Nat.le_refl _)
      rw [List.take_length] at h1
      have := HTx.out.1
      omega
    have H3 : Hid (Below b w w7) := Lib.hid (HB1.out.trans ((HD.out.then_below hb).below hs1))
    clear hb HI HTx HD
    generalize strOfNums (itemsCh (qs.map (·.2))) = t2 at *
    go_wp2
    go_ret
    exact ⟨t2, rfl, by omega, by rw [HhB.out]; exact H3.out⟩
end Go.Proofs.YtcgbdhbdlnimhaaGreat

/- DrawI6: two lists of items that are drawn, often the same. -/
namespace Go.Proofs.YtcgbdhbdlnimhaaGreat
open Go.ChangeShapes Go.WideShapes Go.ChangeAt Go.RowKit

theorem ri_set {w : World} {base G : Nat} {v : Value} {ps : List (Value × Item)} (h : RowI w base v ps) (hl : ∀ g, (v.ownBlock = some g ∨ ∃ q ∈ ps, q.1.ownBlock = some g) → g < G) {P : Nat} (hP : G ≤ P) (o : Nat) (u : Value) : RowI (w.setCell ⟨P, o, none⟩ u) base v ps :=
  h.heap (by simp [World.setCell]) (fun g _ hgo => Below.heap_setCell w ⟨P, o, none⟩ u g (by have := hl g hgo; show g ≠ P; omega))
theorem ri_rest {w : World} {base : Nat} {v : Value} {p q : Value × Item} {ps : List (Value × Item)} (hr : w.ownsRow base 62 2 v (ps.length + 1) (itRow (p :: ps))) (he : itRow (q :: ps) = itRow (p :: ps))
    (hq : (∃ pa pn pc, q.1 = .slice pa pn pc) ∧ IntsAt w q.1 q.2.pattern ∧ q.2.name.size ≤ 9223372036854775807) (hp : ∀ x ∈ ps, (∃ pa pn pc, x.1 = .slice pa pn pc) ∧ IntsAt w x.1 x.2.pattern ∧ x.2.name.size ≤ 9223372036854775807) : ItemsAt w v ((q :: ps).map (·.2)) :=
  nest_at_row (S := itemS) (T := 62) (ps := q :: ps) (by show w.ownsRow base 62 2 v (ps.length + 1) (itRow (q :: ps)); rw [he]; exact hr) (fun x hx => by
    rcases List.mem_cons.1 hx with rfl | h
    · exact hq
    · exact hp x h)
set_option maxHeartbeats 4000000 in
set_option maxRecDepth 100000 in
set_option maxHeartbeats 2000000 in
theorem drawSameItems_c (v : Value) (cs : List Int) (w : World) (hv : BytesAt w v cs) (hin : ∀ x ∈ cs, 0 ≤ x ∧ x ≤ 255) (hl : cs.length ≤ 4096) : Calls Tryz.prog 34 #[v] w fun e w' => ∃ (a : Option Addr) (m c : Nat) (a' : Option Addr) (m' c' : Nat) (l l' : List Item), e = .returned (.tuple #[.slice a m c, .slice a' m' c']) ∧ ItemsAt w' (.slice a m c) l ∧ ItemsAt w' (.slice a' m' c') l' ∧ Below w.heap.size w w' := by
  have HV := Lib.hid hv
  have Hin := Lib.hid hin
  have Hcl := Lib.hid hl
  clear hv hin hl
  go_enter Tryz.func34, Tryz.ntmps34
  go_wp2_with fail
  refine (l00From_c v cs w HV.out Hin.out Hcl.out).mono ?_
  rintro e w1 ⟨rfl, hsrc, hb1⟩
  have hs1 := hb1.size
  have hbl := hsrc.lt
  have HB1 := Lib.hid hb1
  have HS := Lib.hid hsrc
  clear hsrc hb1
  generalize hB : w.heap.size = b at *
  have HhB := Lib.hid hB
  clear hB
  go_wp2_with fail
  refine (l22Draw_c b 0 w1 HS.out (by omega)).mono ?_
  rintro e w2 ⟨a, m, c, ps, rfl, hps, ho, hd⟩
  have HA := Lib.hid ho
  have HD := Lib.hid hd
  have HPs := Lib.hid hps
  have hml := ho.len
  have hs2 := hd.2.size
  have hbl2 : b < w2.heap.size := by omega
  have HAl : Hid (∀ g, ((Value.slice a m c).ownBlock = some g ∨ ∃ q ∈ ps, q.1.ownBlock = some g) → g < w2.heap.size) := Lib.hid (fun g hg => by
    rcases hg with hg | ⟨q, hqm, hg⟩
    · exact (ho.1.lt g hg).2
    · exact ((ho.2 q hqm).2.2.2 g hg).2.1)
  have Hml := Lib.hid hml
  clear ho hd hps HS hml
  go_wp2_with fail
  refine (l22Own_c _ (ps.map (·.2)) w2 HA.out.at (by rw [List.length_map]; have := HPs.out.1; omega) (fun x hx => by
    obtain ⟨q, hq, rfl⟩ := List.mem_map.1 hx
    have := (HPs.out.2 q hq).2.1.2
    omega)).mono ?_
  rintro e w3 ⟨ba, bn, bc, rfl, ho3, hb3⟩
  obtain ⟨qs, hqs, hrow, hqp, hdis⟩ := ho3
  have hql : qs.length = ps.length := by have := congrArg List.length hqs; simpa using this
  have HQ : Hid (RowI w3 w2.heap.size (.slice ba bn bc) qs) := Lib.hid ⟨(by rw [List.length_map, ← hql] at hrow; exact hrow), fun p hp => ⟨(hqp p hp).1, OwnInts.at (hqp p hp).2.1, (hqp p hp).2.2.1, fun g hg => ⟨((hqp p hp).2.1.lt g hg).1, ((hqp p hp).2.1.lt g hg).2, (hqp p hp).2.2.2 g hg⟩⟩⟩
  have HOw : Hid (∀ p ∈ qs, OwnInts w3 w2.heap.size p.1 p.2.pattern) := Lib.hid (fun p hp => (hqp p hp).2.1)
  have HDis := Lib.hid hdis
  have HTx : Hid (∀ p ∈ qs, TxI1 p.2) := Lib.hid (fun p hp => by
    have h1 : p.2 ∈ qs.map (·.2) := List.mem_map_of_mem hp
    rw [hqs] at h1
    obtain ⟨q, hq, e⟩ := List.mem_map.1 h1
    rw [← e]; exact HPs.out.2 q hq)
  have hbn := HQ.out.len
  have hbm : bn = m := by rw [hbn, hql]; exact Hml.out.symm
  subst hbm
  have Hql := Lib.hid hbn
  have hm80 : bn ≤ 80 := by have := HPs.out.1; omega
  replace HA := Lib.hid (HA.out.below hb3)
  replace HD := Lib.hid (HD.out.then_below hb3)
  clear hqs hrow hqp hdis hql hbn hb3 HPs Hml
  by_cases hm0 : bn = 0
  · subst hm0
    have H3 : Hid (Below b w (w3)) := Lib.hid (HB1.out.trans (HD.out.below hs1))
    have HO7 := Lib.hid (RowI.at HA.out)
    have HO8 := Lib.hid (RowI.at HQ.out)
    clear HA HQ HD
    go_wp2
    go_ret2
    exact ⟨_, _, _, _, _, _, _, _, rfl, HO7.out, HO8.out, by rw [HhB.out]; exact H3.out⟩
  have hmp : 0 < bn := by omega
  obtain ⟨G, rfl, hG, hG2⟩ := HQ.out.head hmp
  clear hG2
  go_wp2_with fail
  refine (pick_c b _ 4 _ HD.out.1 (by omega) (by omega)).mono ?_
  rintro e w5 ⟨v9, rfl, -, hd⟩
  replace HA := Lib.hid (HA.out.drew hd hbl)
  replace HQ := Lib.hid (HQ.out.drew hd hbl2)
  replace HOw : Hid (∀ p ∈ qs, OwnInts w5 w2.heap.size p.1 p.2.pattern) := Lib.hid (fun p hp => own_drew (HOw.out p hp) hd hbl2)
  replace HD := Lib.hid (HD.out.trans hd)
  clear hd
  obtain ⟨q0, qt, rfl⟩ : ∃ q0 qt, qs = q0 :: qt := by
    cases qs with
    | nil => have := Hql.out; simp at this; omega
    | cons x l => exact ⟨x, l, rfl⟩
  obtain ⟨qv, nm, pt⟩ := q0
  have hw1G : w1.heap.size ≤ G := by omega
  have c0 := HQ.out.cell (i := 0) (by simp) 0 (by decide)
  have c1 := HQ.out.cell (i := 0) (by simp) 1 (by decide)
  have htx := HTx.out _ List.mem_cons_self
  obtain ⟨c0, f0⟩ := c0
  obtain ⟨c1, f1⟩ := c1
  replace c0 : w5.cell? ⟨G, 0, none⟩ = some (.string nm) := c0
  replace c1 : w5.cell? ⟨G, 1, none⟩ = some qv := c1
  replace f0 : w5.frozen? ⟨G, 0, none⟩ = false := f0
  clear f1
  have hnm20 : nm.size ≤ 20 := htx.1
  have HPt : Hid ((1 ≤ pt.length ∧ pt.length ≤ 13) ∧ ∀ y ∈ pt, 0 ≤ y ∧ y ≤ 15) := Lib.hid htx.2
  have hq0 := HQ.out.2 _ List.mem_cons_self
  have Hq0 := Lib.hid hq0
  clear htx HTx hq0
  by_cases h0 : v9 = 0
  · subst h0
    have hq1 : ¬ 9223372036854775807 < nm.size + 1 := by omega
    have HQ9 : Hid (RowI (w5.setCell ⟨G, 0, none⟩ (.string (nm ++ ({ data := #[120] } : ByteArray)))) w2.heap.size (.slice (some ⟨G, 0, none⟩) bn bc) ((qv, ⟨nm ++ ({ data := #[120] } : ByteArray), pt⟩) :: qt)) := Lib.hid (HQ.out.set (i := 0) (by simp) 0 (by decide) (.string (nm ++ ({ data := #[120] } : ByteArray))) (qv, ⟨nm ++ ({ data := #[120] } : ByteArray), pt⟩) rfl ⟨Hq0.out.1, Hq0.out.2.1, (by show ByteArray.size (_ ++ _) ≤ _; rw [ByteArray.size_append]; have e5 : ({ data := #[120] } : ByteArray).size = 1 := rfl; omega), Hq0.out.2.2.2⟩)
    have HA9 := Lib.hid (ri_set HA.out HAl.out hG 0 (.string (nm ++ ({ data := #[120] } : ByteArray))))
    have HD9 := Lib.hid (HD.out.thenK ((Below.refl w1.heap.size w5).setCell (p := ⟨G, 0, none⟩) hw1G (.string (nm ++ ({ data := #[120] } : ByteArray)))) hbl)
    clear HQ HA HD
    have HQ := HQ9; have HA := HA9; have HD := HD9
    clear HQ9 HA9 HD9 c1 HOw HDis Hql
    go_wp2
    have H3 : Hid (Below b w (w5.setCell ⟨G, 0, none⟩ (.string (nm ++ ({ data := #[120] } : ByteArray))))) := Lib.hid (HB1.out.trans (HD.out.below hs1))
    have HO7 := Lib.hid (RowI.at HA.out)
    have HO8 := Lib.hid (RowI.at HQ.out)
    clear HA HQ HD
    go_wp2
    go_ret2
    exact ⟨_, _, _, _, _, _, _, _, rfl, HO7.out, HO8.out, by rw [HhB.out]; exact H3.out⟩
  have hz0 : ((v9 : Int) == 0) = false := beq_eq_false_iff_ne.2 (by omega)
  by_cases h1 : v9 = 1
  · subst h1
    have hown := HOw.out _ List.mem_cons_self
    obtain ⟨pa, pn, pc, hqe⟩ := Hq0.out.1
    dsimp only at hqe hown
    subst hqe
    obtain ⟨hpn, hph⟩ := ownHead hown
    have hp1 := HPt.out.1.1
    have hpn0 : 0 < pn := by omega
    obtain ⟨P, rfl, hP⟩ := hph hpn0
    obtain ⟨d0, g0⟩ := ownCell hown 0 (by omega)
    have hx := HPt.out.2 _ (mem_nth (l := pt) (i := 0) (by omega))
    have hset := ownSet hown 0 (nth pt 0 + 1)
    generalize nth pt 0 = x at *
    have hwx : IntKind.i64.wrap (x + 1) = x + 1 := IntWalk.i64_in _ (by omega)
    have hGP : G ≠ P := fun e => (Hq0.out.2.2.2 P rfl).2.2 (by rw [e]; rfl)
    have hrow := HQ.out.1
    have HI9 : Hid (ItemsAt (w5.setCell ⟨P, 0, none⟩ (.int .i64 (x + 1))) (.slice (some ⟨G, 0, none⟩) bn bc) (((.slice (some ⟨P, 0, none⟩) pn pc, (⟨nm, pt.set 0 (x + 1)⟩ : Item)) :: qt).map (·.2))) := Lib.hid (ri_rest (p := (.slice (some ⟨P, 0, none⟩) pn pc, ⟨nm, pt⟩)) (ownHeapI hrow (fun g hg => Below.heap_setCell w5 ⟨P, 0, none⟩ _ g (by injection hg with hg; have hg : G = g := hg; show g ≠ P; omega))) rfl ⟨⟨_, _, _, rfl⟩, OwnInts.at hset, Hq0.out.2.2.1⟩ (fun y hy => by
      have hyp := HQ.out.2 y (List.mem_cons_of_mem _ hy)
      refine ⟨hyp.1, intsHeap hyp.2.1 (by simp [World.setCell]) (fun g hg e => Below.heap_setCell w5 ⟨P, 0, none⟩ _ g (fun e2 => ?_)), hyp.2.2.1⟩
      have e2 : g = P := e2
      exact (List.rel_of_pairwise_cons HDis.out hy) P rfl (by rw [← e2]; exact e)))
    have HA9 := Lib.hid (ri_set HA.out HAl.out hP 0 (.int .i64 (x + 1)))
    have hw1P : w1.heap.size ≤ P := by omega
    have HD9 := Lib.hid (HD.out.thenK ((Below.refl w1.heap.size w5).setCell (p := ⟨P, 0, none⟩) hw1P (.int .i64 (x + 1))) hbl)
    clear HA HD
    have HA := HA9; have HD := HD9
    clear HA9 HD9 c0 f0 HOw HDis Hql hown hset hrow hph hpn HPt
    go_wp2
    have H3 : Hid (Below b w (w5.setCell ⟨P, 0, none⟩ (.int .i64 (x + 1)))) := Lib.hid (HB1.out.trans (HD.out.below hs1))
    have HO7 := Lib.hid (RowI.at HA.out)
    have HO8 := Lib.hid (HI9.out)
    clear HA HQ HD
    go_wp2
    go_ret2
    exact ⟨_, _, _, _, _, _, _, _, rfl, HO7.out, HO8.out, by rw [HhB.out]; exact H3.out⟩
  have hz1 : ((v9 : Int) == 1) = false := beq_eq_false_iff_ne.2 (by omega)
  clear c0 c1 f0 HOw HDis Hql Hq0 HPt
  by_cases h2 : v9 = 2
  · subst h2
    have hIt := RowI.at HQ.out
    obtain ⟨_, _, _, he, hn, hcc, hmm, hC⟩ := hIt
    injection he with e1 e2 e3
    subst e1 e2 e3
    have HO7 := Lib.hid (RowI.at HA.out)
    have H3 : Hid (Below b w w5) := Lib.hid (HB1.out.trans (HD.out.below hs1))
    by_cases hc1 : bc = 1
    · subst hc1
      obtain rfl : bn = 1 := by omega
      have HI9 : Hid (ItemsAt w5 (.slice (some ⟨G, 0, none⟩) 0 0) []) := Lib.hid (items_none _ _ _ (by omega))
      clear hC hn HQ HA HD hm0 hmp
      go_wp2
      go_ret2
      exact ⟨_, _, _, _, _, _, _, _, rfl, HO7.out, HI9.out, by rw [HhB.out]; exact H3.out⟩
    · have HI9 : Hid (ItemsAt w5 (.slice (some ⟨G, 2, none⟩) (bn - 1) (bc - 1)) (((((qv, (⟨nm, pt⟩ : Item)) :: qt).map (·.2))).drop 1)) := Lib.hid (items_back (k := 1) hC hn hcc hmm)
      have hc2 : ¬ bc - 1 = 0 := by omega
      clear hC hn HQ HA HD
      go_wp2
      go_ret2
      exact ⟨_, _, _, _, _, _, _, _, rfl, HO7.out, HI9.out, by rw [HhB.out]; exact H3.out⟩
  have hz2 : ((v9 : Int) == 2) = false := beq_eq_false_iff_ne.2 (by omega)
  clear h0 h1 h2
  have H3 : Hid (Below b w (w5)) := Lib.hid (HB1.out.trans (HD.out.below hs1))
  have HO7 := Lib.hid (RowI.at HA.out)
  have HO8 := Lib.hid (RowI.at HQ.out)
  clear HA HQ HD
  go_wp2
  go_ret2
  exact ⟨_, _, _, _, _, _, _, _, rfl, HO7.out, HO8.out, by rw [HhB.out]; exact H3.out⟩
end Go.Proofs.YtcgbdhbdlnimhaaGreat
