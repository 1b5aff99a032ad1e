import Derived.Test.YtclffohjpbmnbaaGreatDoorMg44
import Derived.Test.YtclffohjpbmnbaaGreatDoorMg46
import Derived.Test.YtclffohjpbmnbaaGreatDoorMg35
import Derived.Test.YtclffohjpbmnbaaGreatDoorMg47
import Derived.Deep.RegionHeld3
/- DrawPr: what the law on what has been practiced draws. -/
namespace Go.Proofs.YtclffohjpbmnbaaGreatDoor
open Go.ChangeShapes Go.WideShapes Go.ChangeAt Go.RowKit

set_option maxRecDepth 100000 in
set_option maxHeartbeats 2000000 in
theorem drawPracticedOf_c (v : Value) (cs : List Int) (w : World) (hv : BytesAt w v cs) (hin : ∀ x ∈ cs, 0 ≤ x ∧ x ≤ 255) (hl : cs.length ≤ 4096) : Calls Tryz.prog 25 #[v] w fun e w' => ∃ (a : Option Addr) (m c : Nat) (l : List Att), e = .returned (.slice a m c) ∧ l.length ≤ 150 ∧ AttsAt w' (.slice a m c) l ∧ Below w.heap.size w w' := by
  have HV := Lib.hid hv
  have Hin := Lib.hid hin
  have Hcl := Lib.hid hl
  clear hv hin hl
  go_enter Tryz.func25, Tryz.ntmps25
  go_wp2_with fail
  refine (l00From_c v cs w HV.out Hin.out Hcl.out).mono ?_
  rintro e w1 ⟨rfl, hsrc, hb1⟩
  have hs1 := hb1.size
  have hbl := hsrc.lt
  have HB1 := Lib.hid hb1
  have HS := Lib.hid hsrc
  clear hsrc hb1
  generalize hB : w.heap.size = b at *
  have HhB := Lib.hid hB
  clear hB
  go_wp2_with fail
  refine (l24Bent_c b 0 w1 HS.out (by omega)).mono ?_
  rintro e w2 ⟨a, m, c, l, rfl, hl, ho, hd⟩
  have H1 := Lib.hid (OwnNest.at ho)
  have H3 : Hid (Below b w w2) := Lib.hid (HB1.out.trans (hd.below hs1))
  have Hl := Lib.hid hl
  clear hl ho hd HS
  go_wp2
  go_ret
  exact ⟨a, m, c, l, rfl, Hl.out, H1.out, by rw [HhB.out]; exact H3.out⟩
set_option maxRecDepth 100000 in
set_option maxHeartbeats 2000000 in
theorem drawAttemptsText_c (v : Value) (cs : List Int) (w : World) (hv : BytesAt w v cs) (hin : ∀ x ∈ cs, 0 ≤ x ∧ x ≤ 255) (hl : cs.length ≤ 4096) : Calls Tryz.prog 30 #[v] w fun e w' => ∃ (a : Option Addr) (m c : Nat) (l : List Att), e = .returned (.slice a m c) ∧ l.length ≤ 150 ∧ AttsAt w' (.slice a m c) l ∧ Below w.heap.size w w' := by
  have HV := Lib.hid hv
  have Hin := Lib.hid hin
  have Hcl := Lib.hid hl
  clear hv hin hl
  go_enter Tryz.func30, Tryz.ntmps30
  go_wp2_with fail
  refine (l00From_c v cs w HV.out Hin.out Hcl.out).mono ?_
  rintro e w1 ⟨rfl, hsrc, hb1⟩
  have hs1 := hb1.size
  have hbl := hsrc.lt
  have HB1 := Lib.hid hb1
  have HS := Lib.hid hsrc
  clear hsrc hb1
  generalize hB : w.heap.size = b at *
  have HhB := Lib.hid hB
  clear hB
  go_wp2_with fail
  refine (l24Bent_c b 0 w1 HS.out (by omega)).mono ?_
  rintro e w2 ⟨a, m, c, l, rfl, hl, ho, hd⟩
  have H1 := Lib.hid (OwnNest.at ho)
  have H3 : Hid (Below b w w2) := Lib.hid (HB1.out.trans (hd.below hs1))
  have Hl := Lib.hid hl
  clear hl ho hd HS
  go_wp2
  go_ret
  exact ⟨a, m, c, l, rfl, Hl.out, H1.out, by rw [HhB.out]; exact H3.out⟩
set_option maxRecDepth 100000 in
set_option maxHeartbeats 2000000 in
theorem drawReadAttempts_c (v : Value) (cs : List Int) (w : World) (hv : BytesAt w v cs) (hin : ∀ x ∈ cs, 0 ≤ x ∧ x ≤ 255) (hl : cs.length ≤ 4096) : Calls Tryz.prog 33 #[v] w fun e w' => ∃ t : ByteArray, e = .returned (.string t) ∧ t.size ≤ 9000 ∧ Below w.heap.size w w' := by
  have HV := Lib.hid hv
  have Hin := Lib.hid hin
  have Hcl := Lib.hid hl
  clear hv hin hl
  go_enter Tryz.func33, Tryz.ntmps33
  go_wp2_with fail
  refine (l00From_c v cs w HV.out Hin.out Hcl.out).mono ?_
  rintro e w1 ⟨rfl, hsrc, hb1⟩
  have hs1 := hb1.size
  have hbl := hsrc.lt
  have HB1 := Lib.hid hb1
  have HS := Lib.hid hsrc
  clear hsrc hb1
  generalize hB : w.heap.size = b at *
  have HhB := Lib.hid hB
  clear hB
  go_wp2_with fail
  refine (l24DrawS_c b 0 w1 HS.out (by omega)).mono ?_
  rintro e w2 ⟨a, m, c, l, rfl, hl, ho, hd, hsm⟩
  have HD := Lib.hid hd
  have HO := Lib.hid (OwnNest.at ho)
  have HTx : Hid (TxA l) := Lib.hid ⟨hsm, by omega⟩
  have Hl := Lib.hid hl
  clear ho hd hsm hl HS
  go_wp2_with fail
  refine (l24TextS_c _ l w2 HO.out HTx.out).mono ?_
  rintro e w3 ⟨rfl, hb⟩
  have hsz : (strOfNums (attsCh l)).size ≤ 4000 := by
    rw [strOfNums_size]
    have h1 := attsChS_len HTx.out l.length (Nat.le_refl _)
    rw [List.take_length] at h1
    have := HTx.out.2
    omega
  replace HD := Lib.hid (HD.out.then_below hb)
  clear hb HO HTx
  generalize strOfNums (attsCh l) = t at *
  go_wp2_with fail
  refine (one_c b _ 3 _ HD.out.1 (by omega) (by omega)).mono ?_
  rintro e w4 ⟨d, rfl, hd⟩
  replace HD := Lib.hid (HD.out.trans hd)
  clear hd
  cases d
  · have H3 : Hid (Below b w w4) := Lib.hid (HB1.out.trans (HD.out.below hs1))
    clear HD
    go_wp2
    go_ret
    exact ⟨t, rfl, by omega, by rw [HhB.out]; exact H3.out⟩
  · go_wp2_with fail
    refine (l01Spoil_c b _ t _ HD.out.1 (by omega) (by omega)).mono ?_
    rintro e w5 ⟨t5, rfl, hz, hd⟩
    have H3 : Hid (Below b w w5) := Lib.hid (HB1.out.trans ((HD.out.trans hd).below hs1))
    clear hd HD
    go_wp2
    go_ret
    exact ⟨t5, rfl, by omega, by rw [HhB.out]; exact H3.out⟩
/-! ### Two lists of attempts, often the same -/
theorem intsOff {w : World} {v : Value} {l : List Int} {p : Addr} (h : IntsAt w v l) (hp : v.ownBlock ≠ some p.block) (u : Value) : IntsAt (w.setCell p u) v l := by
  obtain ⟨a, m, c, rfl, h1, h2, h3, hc⟩ := h
  refine ⟨a, m, c, rfl, h1, h2, h3, fun i hi => ?_⟩
  obtain ⟨b, o, rfl, hb, c0⟩ := hc i hi
  refine ⟨b, o, rfl, by simpa [World.setCell] using hb, ?_⟩
  rw [World.cell?_setCell_other]
  · exact c0
  · intro e
    exact hp (by rw [e]; rfl)
/-- A row of attempts, its cells told; the lists lie elsewhere, apart from the row. -/
structure RowA (w : World) (base g n c : Nat) (ps : List (Value × Att)) : Prop where
  row : w.ownsRow base 103 3 (.slice (some ⟨g, 0, none⟩) n c) n (attRow ps)
  len : n = ps.length
  pat : ∀ p ∈ ps, (∃ pa pn pc, p.1 = .slice pa pn pc) ∧ IntsAt w p.1 p.2.pattern ∧ p.1.ownBlock ≠ some g
theorem RowA.at {w : World} {base g n c : Nat} {ps : List (Value × Att)} (h : RowA w base g n c ps) : AttsAt w (.slice (some ⟨g, 0, none⟩) n c) (ps.map (·.2)) := by
  have hr := h.row
  rw [h.len] at hr
  rw [h.len]
  exact nestAtRow (S := attS) (T := 103) hr (fun p hp => ⟨(h.pat p hp).1, (h.pat p hp).2.1, trivial⟩)
theorem RowA.cell {w : World} {base g n c : Nat} {ps : List (Value × Att)} (h : RowA w base g n c ps) (h0 : 0 < ps.length) (j : Nat) (hj : j < 3) : w.cell? ⟨g, j, none⟩ = (attS.enc (nth ps 0).1 (nth ps 0).2)[j]? ∧ w.frozen? ⟨g, j, none⟩ = false := by
  have hl := h.len
  refine ⟨?_, h.row.frozenAt _⟩
  rw [h.row.cellAt j (by omega)]
  have := flat_at (fun p : Value × Att => attS.enc p.1 p.2) 3 (fun p => attS.len p.1 p.2) ps 0 h0 j hj
  rw [Nat.zero_mul, Nat.zero_add] at this
  exact this
theorem RowA.set {w : World} {base g n c : Nat} {ps : List (Value × Att)} (h : RowA w base g n c ps) (h0 : 0 < ps.length) (j : Nat) (hj : j < 3) (u : Value) (q : Value × Att) (hq : attS.enc q.1 q.2 = (attS.enc (nth ps 0).1 (nth ps 0).2).set j u)
    (hqs : (∃ pa pn pc, q.1 = .slice pa pn pc) ∧ IntsAt w q.1 q.2.pattern ∧ q.1.ownBlock ≠ some g) : RowA (w.setCell ⟨g, j, none⟩ u) base g n c (ps.set 0 q) := by
  refine ⟨?_, by rw [List.length_set]; exact h.len, fun p hp => ?_⟩
  · have h1 := (h.row.stored j u).1
    have h2 := flat_set (fun p : Value × Att => attS.enc p.1 p.2) 3 (fun p => attS.len p.1 p.2) ps 0 h0 j u q hj hq
    rw [Nat.zero_mul, Nat.zero_add] at h2
    have e : attRow (ps.set 0 q) = (attRow ps).set j u := h2.symm
    rw [e]; exact h1
  · have hp' : (∃ pa pn pc, p.1 = .slice pa pn pc) ∧ IntsAt w p.1 p.2.pattern ∧ p.1.ownBlock ≠ some g := by
      rcases List.mem_or_eq_of_mem_set hp with h1 | rfl
      · exact h.pat p h1
      · exact hqs
    exact ⟨hp'.1, intsOff hp'.2.1 hp'.2.2 _, hp'.2.2⟩
theorem RowA.drew {w w' : World} {b k base g n c : Nat} {ps : List (Value × Att)} (h : RowA w base g n c ps) (hd : Drew b k w w') (hb : b < base) (hp : ∀ p ∈ ps, p.1.ownBlock ≠ some b) : RowA w' base g n c ps :=
  ⟨own_drew h.row hd hb, h.len, fun p hp' => ⟨(h.pat p hp').1, (h.pat p hp').2.1.drew hd (fun _ b' o m c' e e2 => hp p hp' (by rw [e, ← e2]; rfl)), (h.pat p hp').2.2⟩⟩
theorem RowA.below {w w' : World} {base g n c : Nat} {ps : List (Value × Att)} (h : RowA w base g n c ps) (hb : Below w.heap.size w w') : RowA w' base g n c ps :=
  ⟨own_below h.row hb, h.len, fun p hp' => ⟨(h.pat p hp').1, (h.pat p hp').2.1.below hb, (h.pat p hp').2.2⟩⟩
end Go.Proofs.YtclffohjpbmnbaaGreatDoor

/- DrawPs: two lists of attempts that are drawn, often the same. -/
namespace Go.Proofs.YtclffohjpbmnbaaGreatDoor
open Go.ChangeShapes Go.WideShapes Go.ChangeAt Go.RowKit

theorem att_oneD (ps : List (Value × Att)) (h : ∀ p ∈ ps, ∃ pa pn pc, p.1 = .slice pa pn pc) : ∀ u ∈ attRow ps, u.oneCell' = true := by
  intro u hu
  unfold attRow at hu
  obtain ⟨p, hp, hu⟩ := List.mem_flatMap.1 hu
  obtain ⟨pa, pn, pc, e⟩ := h p hp
  simp only [attS, List.mem_cons, List.not_mem_nil, or_false] at hu
  rcases hu with rfl | rfl | rfl
  · rw [e]; rfl
  · rfl
  · rfl
theorem own_capA {w : World} {base : Nat} {e : TypeId} {size : Nat} {a : Option Addr} {n c k : Nat} {xs : List Value} (h : w.ownsRow base e size (.slice a n c) k xs) : c ≤ 9223372036854775807 := by
  rcases h.2 with ⟨e, _⟩ | ⟨g, cap, cur, e, _, _, _, hm, _⟩
  · injection e with _ _ e3; omega
  · injection e with _ _ e3; unfold maxLen at hm; omega
set_option maxHeartbeats 4000000 in
set_option maxRecDepth 100000 in
set_option maxHeartbeats 2000000 in
theorem drawSameAttempts_c (v : Value) (cs : List Int) (w : World) (hv : BytesAt w v cs) (hin : ∀ x ∈ cs, 0 ≤ x ∧ x ≤ 255) (hl : cs.length ≤ 4096) : Calls Tryz.prog 35 #[v] w fun e w' => ∃ (a : Option Addr) (m c : Nat) (a' : Option Addr) (m' c' : Nat) (l l' : List Att), e = .returned (.tuple #[.slice a m c, .slice a' m' c']) ∧ AttsAt w' (.slice a m c) l ∧ AttsAt w' (.slice a' m' c') l' ∧ Below w.heap.size w w' := by
  have HV := Lib.hid hv
  have Hin := Lib.hid hin
  have Hcl := Lib.hid hl
  clear hv hin hl
  go_enter Tryz.func35, Tryz.ntmps35
  go_wp2_with fail
  refine (l00From_c v cs w HV.out Hin.out Hcl.out).mono ?_
  rintro e w1 ⟨rfl, hsrc, hb1⟩
  have hs1 := hb1.size
  have hbl := hsrc.lt
  have HB1 := Lib.hid hb1
  have HS := Lib.hid hsrc
  clear hsrc hb1
  generalize hB : w.heap.size = b at *
  have HhB := Lib.hid hB
  clear hB
  go_wp2_with fail
  refine (l24DrawS_c b 0 w1 HS.out (by omega)).mono ?_
  rintro e w2 ⟨a, m, c, l, rfl, hl, ho, hd, hsm⟩
  have HD := Lib.hid hd
  have HSm := Lib.hid hsm
  have hm := ownLen ho
  have hm9 : m ≤ 9 := by omega
  have hs2 := hd.2.size
  have hbl2 : b < w2.heap.size := by omega
  obtain ⟨ps, hps, hin⟩ := InNest.of ho
  have hpl : ps.length = l.length := by rw [← hps]; simp
  have HI : Hid (InNest attS 103 w2 w1.heap.size w2.heap.size (.slice a m c) l) := Lib.hid ⟨ps, hps, hin⟩
  have hrd := hin.reads
  have Hrd : Hid (Reads w2 w2.heap.size 3 a m (attRow ps)) := Lib.hid (by rw [hm, ← hpl]; exact hrd)
  have Hpt : Hid (∀ p ∈ ps, (∃ pa pn pc, p.1 = .slice pa pn pc) ∧ IntsAt w2 p.1 p.2.pattern ∧ (∀ g, p.1.ownBlock = some g → w1.heap.size ≤ g ∧ g < w2.heap.size)) := Lib.hid (fun p hp => by
    obtain ⟨i, hi, rfl⟩ := List.getElem_of_mem hp
    rw [← nth_eq ps i hi]
    have h1 := hin.pat i hi
    exact ⟨hin.sl i hi, OwnInts.at h1.1, fun g hg => ⟨(h1.1.lt g hg).1, h1.2 g hg⟩⟩)
  have Hpl : Hid (m = ps.length) := Lib.hid (by omega)
  have Hps := Lib.hid hps
  clear ho hd hsm hl HS hin hrd hpl hps hm
  go_wp2_with (at_builtin; refine wpList_app_atts rfl _ _ rfl w2.heap.size _ 0 [] rfl (World.ownsRow_lit w2 #[] 0 (Nat.le_refl _) (by decide) rfl) _ m _ _ rfl (by have h := Hrd.out.below (show Below w2.heap.size w2 (w2.alloc (.cells #[] 103)) by go_grown); exact h.more (by simp)) (att_oneD ps fun p hp => (Hpt.out p hp).1) (by omega) (by simp) ?_)
  intro a4 n4 c4 w4 hn4 ho4 hg4 _
  have hb4 : Below w2.heap.size w2 w4 := ((Below.refl _ _).alloc (Nat.le_refl _) _).grown hg4 (by simp) (fun g hg => by simp [Value.ownBlock] at hg; omega)
  have hsz : w2.heap.size ≤ w4.heap.size := hb4.size
  have HRw : Hid (w4.ownsRow w2.heap.size 103 3 (.slice a4 n4 c4) m (attRow ps)) := Lib.hid (by simpa using ho4)
  replace HD := Lib.hid (HD.out.then_below hb4)
  replace HI := Lib.hid (HI.out.below hb4)
  have Hpt4 : Hid (∀ p ∈ ps, (∃ pa pn pc, p.1 = .slice pa pn pc) ∧ IntsAt w4 p.1 p.2.pattern ∧ (∀ g, p.1.ownBlock = some g → w1.heap.size ≤ g ∧ g < w2.heap.size)) := Lib.hid (fun p hp => ⟨(Hpt.out p hp).1, (Hpt.out p hp).2.1.below hb4, (Hpt.out p hp).2.2⟩)
  have hn4' : n4 = m := by omega
  clear ho4 hg4 hn4 hb4 Hrd Hpt
  subst hn4'
  by_cases hm0 : n4 = 0
  · subst hm0
    have H3 : Hid (Below b w w4) := Lib.hid (HB1.out.trans (HD.out.below hs1))
    have HO7 : Hid (AttsAt w4 (.slice a 0 c) l) := Lib.hid (InNest.at HI.out)
    have HP7 : Hid (AttsAt w4 (.slice a4 0 c4) []) := Lib.hid ⟨a4, 0, c4, rfl, rfl, Nat.zero_le _, own_capA HRw.out, fun i hi => absurd hi (Nat.not_lt_zero _)⟩
    clear HI HRw HD
    go_wp2
    go_ret2
    exact ⟨_, _, _, _, _, _, _, _, rfl, HO7.out, HP7.out, by rw [HhB.out]; exact H3.out⟩
  have hmp : 0 < n4 := by omega
  obtain ⟨g, rfl, hg⟩ : ∃ g, a4 = some ⟨g, 0, none⟩ ∧ w2.heap.size ≤ g := by
    obtain ⟨g, cap, e, h1, h2⟩ := HRw.out.form hmp
    injection e with e1
    exact ⟨g, e1, h1⟩
  have hg1 : w1.heap.size ≤ g := by omega
  have hl0 : 0 < ps.length := by have := Hpl.out; omega
  have HR : Hid (RowA w4 w2.heap.size g n4 c4 ps) := Lib.hid ⟨HRw.out, Hpl.out, fun p hp => ⟨(Hpt4.out p hp).1, (Hpt4.out p hp).2.1, fun e => by have := ((Hpt4.out p hp).2.2 g e).2; omega⟩⟩
  have Hpb : Hid (∀ p ∈ ps, p.1.ownBlock ≠ some b) := Lib.hid (fun p hp e => by have := ((Hpt4.out p hp).2.2 b e).1; omega)
  clear HRw Hpt4
  go_wp2_with fail
  refine (pick_c b _ 4 _ HD.out.1 (by omega) (by omega)).mono ?_
  rintro e w5 ⟨v9, rfl, -, hd⟩
  replace HI := Lib.hid (HI.out.turned hd.2 (.inr hbl))
  replace HR := Lib.hid (HR.out.drew hd hbl2 Hpb.out)
  replace HD := Lib.hid (HD.out.trans hd)
  clear hd
  have hq0 := HR.out.pat _ (mem_nth hl0)
  have hct := (HSm.out (nth ps 0).2 (by rw [← Hps.out]; exact List.mem_map.2 ⟨_, mem_nth hl0, rfl⟩)).2
  have c0 := (HR.out.cell hl0 0 (by decide))
  have c1 := (HR.out.cell hl0 1 (by decide))
  have c2 := (HR.out.cell hl0 2 (by decide))
  have Hq0 := Lib.hid hq0
  clear hq0
  generalize hq : nth ps 0 = q0 at *
  obtain ⟨qv, qp, qt, qd⟩ := q0
  obtain ⟨c0, f0⟩ := c0
  obtain ⟨c1, f1⟩ := c1
  obtain ⟨c2, f2⟩ := c2
  replace c1 : w5.cell? ⟨g, 1, none⟩ = some (.int .i64 qt) := c1
  replace c2 : w5.cell? ⟨g, 2, none⟩ = some (.bool qd) := c2
  replace c0 : w5.cell? ⟨g, 0, none⟩ = some qv := c0
  have hct1 : qt ≤ 100000 := hct.2
  have hct0 : 0 ≤ qt := hct.1
  clear hct
  by_cases h0 : v9 = 0
  · subst h0
    have hwt : IntKind.i64.wrap (qt + 1) = qt + 1 := IntWalk.i64_in _ (by omega)
    have HR9 := Lib.hid (HR.out.set hl0 1 (by decide) (.int .i64 (qt + 1)) (qv, ⟨qp, qt + 1, qd⟩) (by rw [hq]; rfl) Hq0.out)
    have HI9 := Lib.hid (HI.out.turned (Turned.set (Turned.refl w5) (p := ⟨g, 1, none⟩) (Nat.le_refl g) (Nat.lt_succ_self g) (.int .i64 (qt + 1))) (.inl hg))
    have HD9 := Lib.hid (HD.out.thenK ((Below.refl w1.heap.size w5).setCell (p := ⟨g, 1, none⟩) hg1 (.int .i64 (qt + 1))) hbl)
    clear HR HI HD
    have HR := HR9
    have HI := HI9
    have HD := HD9
    clear HR9 HI9 HD9
    go_wp2
    generalize (w5).setCell ⟨g, 1, none⟩ (.int .i64 (qt + 1)) = w7 at *
    clear c0 c1 c2 f0 f1 f2 hwt
    have H3 : Hid (Below b w w7) := Lib.hid (HB1.out.trans (HD.out.below hs1))
    have HO7 : Hid (AttsAt w7 (.slice a n4 c) l) := Lib.hid (InNest.at HI.out)
    have HP7 := Lib.hid (RowA.at HR.out)
    clear HI HR HD
    go_wp2
    go_ret2
    exact ⟨_, _, _, _, _, _, _, _, rfl, HO7.out, HP7.out, by rw [HhB.out]; exact H3.out⟩
  have hz0 : ((v9 : Int) == 0) = false := beq_eq_false_iff_ne.2 (by omega)
  by_cases h1 : v9 = 1
  · subst h1
    have HR9 := Lib.hid (HR.out.set hl0 2 (by decide) (.bool (!qd)) (qv, ⟨qp, qt, !qd⟩) (by rw [hq]; rfl) Hq0.out)
    have HI9 := Lib.hid (HI.out.turned (Turned.set (Turned.refl w5) (p := ⟨g, 2, none⟩) (Nat.le_refl g) (Nat.lt_succ_self g) (.bool (!qd))) (.inl hg))
    have HD9 := Lib.hid (HD.out.thenK ((Below.refl w1.heap.size w5).setCell (p := ⟨g, 2, none⟩) hg1 (.bool (!qd))) hbl)
    clear HR HI HD
    have HR := HR9
    have HI := HI9
    have HD := HD9
    clear HR9 HI9 HD9
    go_wp2
    generalize (w5).setCell ⟨g, 2, none⟩ (.bool (!qd)) = w7 at *
    clear c0 c1 c2 f0 f1 f2
    have H3 : Hid (Below b w w7) := Lib.hid (HB1.out.trans (HD.out.below hs1))
    have HO7 : Hid (AttsAt w7 (.slice a n4 c) l) := Lib.hid (InNest.at HI.out)
    have HP7 := Lib.hid (RowA.at HR.out)
    clear HI HR HD
    go_wp2
    go_ret2
    exact ⟨_, _, _, _, _, _, _, _, rfl, HO7.out, HP7.out, by rw [HhB.out]; exact H3.out⟩
  have hz1 : ((v9 : Int) == 1) = false := beq_eq_false_iff_ne.2 (by omega)
  by_cases h2 : v9 = 2
  · subst h2
    have hbA : Below w5.heap.size w5 (w5.alloc (.cells #[.int .i64 2] 2)) := by go_grown
    have hsg : g < w5.heap.size := (HR.out.row.lt g rfl).2
    have hl2 : IntsAt (w5.alloc (.cells #[.int .i64 2] 2)) (.slice (some ⟨w5.heap.size, 0, none⟩) 1 1) [2] := ints_lit (w := w5) [2] 1 rfl _ rfl (by decide)
    replace HR := Lib.hid (HR.out.below hbA)
    replace HI := Lib.hid (HI.out.below hbA)
    replace HD := Lib.hid (HD.out.then_below hbA)
    have hwe := World.setCell_alloc_past (w := w5) (.cells #[.int .i64 2] 2) g 0 (.slice (some ⟨w5.heap.size, 0, none⟩) 1 1) hsg
    have HR9 := Lib.hid (HR.out.set hl0 0 (by decide) (.slice (some ⟨w5.heap.size, 0, none⟩) 1 1) (.slice (some ⟨w5.heap.size, 0, none⟩) 1 1, ⟨[2], qt, qd⟩) (by rw [hq]; rfl) ⟨⟨_, _, _, rfl⟩, hl2, fun e => by injection e with e; simp at e; omega⟩)
    have HI9 := Lib.hid (HI.out.turned (Turned.set (Turned.refl (w5.alloc (.cells #[.int .i64 2] 2))) (p := ⟨g, 0, none⟩) (Nat.le_refl g) (Nat.lt_succ_self g) (.slice (some ⟨w5.heap.size, 0, none⟩) 1 1)) (.inl hg))
    have HD9 := Lib.hid (HD.out.thenK ((Below.refl w1.heap.size (w5.alloc (.cells #[.int .i64 2] 2))).setCell (p := ⟨g, 0, none⟩) hg1 (.slice (some ⟨w5.heap.size, 0, none⟩) 1 1)) hbl)
    clear HR HI HD
    have HR := HR9
    have HI := HI9
    have HD := HD9
    clear HR9 HI9 HD9
    rw [hwe] at HR HI HD
    clear hwe
    go_wp2
    generalize (w5.setCell ⟨g, 0, none⟩ (.slice (some ⟨w5.heap.size, 0, none⟩) 1 1)).alloc (.cells #[.int .i64 2] 2) = w7 at *
    clear c1 c2 f1 f2
    have H3 : Hid (Below b w w7) := Lib.hid (HB1.out.trans (HD.out.below hs1))
    have HO7 : Hid (AttsAt w7 (.slice a n4 c) l) := Lib.hid (InNest.at HI.out)
    have HP7 := Lib.hid (RowA.at HR.out)
    clear HI HR HD
    go_wp2
    go_ret2
    exact ⟨_, _, _, _, _, _, _, _, rfl, HO7.out, HP7.out, by rw [HhB.out]; exact H3.out⟩
  have hz2 : ((v9 : Int) == 2) = false := beq_eq_false_iff_ne.2 (by omega)
  clear h0 h1 h2 c0 c1 c2 f0 f1 f2 hq
  have H3 : Hid (Below b w w5) := Lib.hid (HB1.out.trans (HD.out.below hs1))
  have HO7 : Hid (AttsAt w5 (.slice a n4 c) l) := Lib.hid (InNest.at HI.out)
  have HP7 := Lib.hid (RowA.at HR.out)
  clear HI HR HD
  go_wp2
  go_ret2
  exact ⟨_, _, _, _, _, _, _, _, rfl, HO7.out, HP7.out, by rw [HhB.out]; exact H3.out⟩
end Go.Proofs.YtclffohjpbmnbaaGreatDoor
