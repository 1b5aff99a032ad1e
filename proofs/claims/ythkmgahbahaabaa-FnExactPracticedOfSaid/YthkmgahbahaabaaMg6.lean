import Derived.Test.YthkmgahbahaabaaMg5
/- Atts2: copies of attempts. -/
namespace Go.Proofs.Ythkmgahbahaabaa
open Go.ChangeShapes Go.WideShapes Go.ChangeAt Go.RowKit

theorem toAttempt_c (x : Att) (pa : Option Addr) (pn pc : Nat) (w : World) (hp : IntsAt w (.slice pa pn pc) x.pattern) (hl : x.pattern.length ≤ 1048576) :
    Calls Try.prog 18 #[.agg #[.slice pa pn pc, .int .i64 x.catches, .bool x.dropped]] w fun e w' =>
      ∃ a1 n1 c1, e = .returned (.agg #[.slice a1 n1 c1, .int .i64 x.catches, .bool x.dropped]) ∧ OwnInts w' w.heap.size (.slice a1 n1 c1) x.pattern ∧ Below w.heap.size w w' := by
  have HP := Lib.hid hp; clear hp
  go_enter Try.func18, Try.ntmps18
  go_wp2_with fail
  refine (toInt64S_c (.slice pa pn pc) x.pattern _ (HP.out.below (by go_grown)) hl).mono ?_
  rintro e w1 ⟨a1, n1, c1, rfl, o1, hb1⟩
  have hbx := bthen (by go_grown : Below w.heap.size w _) hb1
  have B0 := Lib.hid ((((BoxIs.new w _ _).alloc _).alloc _).below hb1)
  have B1 := Lib.hid (((BoxIs.new' (b := w.heap.size + 1) (by simp only [World.size_alloc]) _ _).alloc _).below hb1)
  have B2 := Lib.hid ((BoxIs.new' (b := w.heap.size + 1 + 1) (by simp only [World.size_alloc]) _ _).below hb1)
  have hsz := hb1.size
  simp only [World.size_alloc] at hsz
  simp only [World.size_alloc] at o1
  have O1 := Lib.hid o1; clear o1
  clear hb1
  have e0 := B0.out.2.1
  obtain ⟨e1, f1⟩ := B1.out.cells
  obtain ⟨e2, f2⟩ := B2.out.cells
  go_wp2
  refine bodyPost_ret (v := .agg #[.slice a1 n1 c1, .int .i64 x.catches, .bool x.dropped]) (by simp [results, Try.results18, go_sem, e1]) rfl ?_
  clear e0 e1 e2 f1 f2
  refine ⟨a1, n1, c1, rfl, ?_, ?_⟩
  · refine own_mono (base' := w.heap.size + 1 + 1 + 1) ?_ (by omega)
    repeat (refine ownsRow_setCell_below ?_ (by simp only []; omega) _)
    exact O1.out
  · repeat (refine Below.setCell ?_ (by simp only []; omega) _)
    exact hbx

theorem attInfo : (Try.prog.info? 40).map (fun i => (i.zero, i.size, i.bytes)) = some (some (.agg #[.slice none 0 0, .int .i64 0, .bool false]), 3, 40) := by kernel_rfl

set_option maxHeartbeats 1000000 in
theorem toAttemptS_c (v : Value) (l : List Att) (w : World) (hv : AttsAt w v l) (hl20 : l.length ≤ 1048576) (hp20 : ∀ x ∈ l, x.pattern.length ≤ 1048576) :
    Calls Try.prog 6 #[v] w fun e w' => ∃ a n cap, e = .returned (.slice a n cap) ∧ OwnAtts w' w.heap.size (.slice a n cap) l ∧ Below w.heap.size w w' := by
  obtain ⟨a, n, cap, rfl, hn, hl, hm, hc⟩ := hv
  have Hc := Lib.hid hc; clear hc
  have hn20 : n ≤ 1048576 := by omega
  have Hn := Lib.hid hn; clear hn hl20
  have Hp20 := Lib.hid hp20; clear hp20
  obtain ⟨i0, hi, hz0, hz1, hz2⟩ := info_parts attInfo
  obtain ⟨w1, hmk, hown, hgr⟩ := run_make_full (P := Try.prog) w w.heap.size 27 40 i0 _ 3 Try.underlying27 hi hz0 hz1 .i64 .i64 n (by rw [hz2]; omega) (by unfold maxLen; omega) (Nat.le_refl _)
  have hb1 : Below w.heap.size w w1 := (Below.refl _ _).grown hgr (Nat.le_refl _) (fun k h => by cases h)
  have Hs1 : Hid (w.heap.size < w1.heap.size) := Lib.hid ((hown.lt w.heap.size rfl).2)
  have Hown := Lib.hid hown; clear hown hgr hi hz0 hz1 hz2
  go_enter Try.func6, Try.ntmps6
  go_wp2
  go_loopw [4] (fun i wr => ∃ (k : Nat) (xs : List Value) (ps : List (Value × Att)), i = .int .i64 k ∧ k ≤ n ∧ Hid (w.heap.size < wr.heap.size) ∧ Hid (wr.ownsRow w.heap.size 40 3 (.slice (some ⟨w.heap.size, 0, none⟩) n n) n xs) ∧ Hid (ps.map (·.2) = l.take k) ∧
      Hid (∀ i, i < k → ∀ j, j < 3 → xs[i * 3 + j]? = (attS.enc (nth ps i).1 (nth ps i).2)[j]?) ∧
      Hid (∀ p ∈ ps, (∃ pa pn pc, p.1 = .slice pa pn pc) ∧ OwnInts wr (w.heap.size + 1) p.1 p.2.pattern ∧ True ∧ ∀ g, p.1.ownBlock = some g → (Value.slice (some ⟨w.heap.size, 0, none⟩) n n).ownBlock ≠ some g) ∧
      Hid (ps.Pairwise (fun p q => ∀ g, p.1.ownBlock = some g → q.1.ownBlock ≠ some g)) ∧ Below w.heap.size w wr) (fun i _ => n - (intOf i).toNat)
  case atStart => exact ⟨0, _, [], rfl, Nat.zero_le _, Hs1, Hown, Lib.hid rfl, Lib.hid fun i hi => absurd hi (Nat.not_lt_zero _), Lib.hid (fun p hp => absurd hp (List.not_mem_nil)), Lib.hid List.Pairwise.nil, hb1⟩
  case round =>
    obtain ⟨k, xs, ps, rfl, hk, HS, HO, HM, HX, HP, HW, hb⟩ := hrel
    clear hb1 Hown hmk Hs1
    by_cases hlt : k < n
    · obtain ⟨b, o, pa, pn, pc, rfl, hbs, hp, c0, c1, c2⟩ := att_cells (Hc.out.below hb) k (by rw [← Hn.out]; exact hlt)
      have HQ := Lib.hid (toAttempt_c (nth l k) pa pn pc wr hp (Hp20.out _ (mem_nth (by rw [← Hn.out]; exact hlt)))); clear hp
      go_wp2_with fail
      refine HQ.out.mono ?_
      rintro e w2 ⟨a1, n1, c3, rfl, o1, hb2⟩
      have hlenps : ps.length = k := by have := congrArg List.length HM.out; simp at this; rw [this, Nat.min_eq_left (by rw [← Hn.out]; omega)]
      have hall := nest_more (S := attS) (w := w2) (base := w.heap.size + 1) (ps := ps) (v := .slice (some ⟨w.heap.size, 0, none⟩) n n) (pv := .slice a1 n1 c3) (x := nth l k) (B := wr.heap.size)
        (fun p hp => ⟨(HP.out p hp).1, own_below (HP.out p hp).2.1 hb2, trivial, (HP.out p hp).2.2.2⟩) HW.out (fun p hp g hg => (World.ownsRow.lt (HP.out p hp).2.1 g hg).2) ⟨_, _, _, rfl⟩ o1 HS.out trivial
        (fun g hg hg2 => by
          have h1 := (World.ownsRow.lt o1 g hg).1
          have h2 := HS.out
          simp [Value.ownBlock] at hg2
          omega)
      have HP2 := Lib.hid hall.1
      have HW2 := Lib.hid hall.2
      have HM2 : Hid ((ps ++ [(Value.slice a1 n1 c3, nth l k)]).map (·.2) = l.take (k + 1)) := Lib.hid (by rw [List.map_append, HM.out, take_nth l k (by rw [← Hn.out]; exact hlt)]; rfl)
      have HN : Hid (nth (ps ++ [(Value.slice a1 n1 c3, nth l k)]) k = (Value.slice a1 n1 c3, nth l k)) := Lib.hid (by simp [nth, ← hlenps])
      have HNl : Hid (∀ i, i < k → nth (ps ++ [(Value.slice a1 n1 c3, nth l k)]) i = nth ps i) := Lib.hid (fun i hi => by simp [nth, List.getElem?_append_left (show i < ps.length by omega)])
      clear hall hlenps HP HW HM
      have hS2 : Hid (w.heap.size < w2.heap.size) := Lib.hid (Nat.lt_of_lt_of_le HS.out hb2.size)
      have ho2 := own_below HO.out hb2
      have hlen := ho2.1
      have e0 := (ho2.cellAt (k * 3) (by omega)).trans (List.getElem?_eq_getElem (by omega))
      have e1 := (ho2.cellAt (k * 3 + 1) (by omega)).trans (List.getElem?_eq_getElem (by omega))
      have e2 := (ho2.cellAt (k * 3 + 2) (by omega)).trans (List.getElem?_eq_getElem (by omega))
      have f0 := ho2.frozenAt (k * 3)
      have f1 := ho2.frozenAt (k * 3 + 1)
      have f2 := ho2.frozenAt (k * 3 + 2)
      generalize xs[k * 3] = y0 at e0
      generalize xs[k * 3 + 1] = y1 at e1
      generalize xs[k * 3 + 2] = y2 at e2
      have HO2 := Lib.hid ho2
      have HO1 := Lib.hid o1
      clear ho2 HO o1
      have Hlen := Lib.hid hlen; clear hlen
      go_wp2
      refine ⟨⟨k + 1, _, ps ++ [(Value.slice a1 n1 c3, nth l k)], by go_num, hlt, Lib.hid (by simp only [World.size_setCell]; exact hS2.out), Lib.hid (own_store3 HO2.out (k * 3) _ _ _), HM2, Lib.hid ?_, Lib.hid ?_, HW2, ((((bthen hb hb2).setCell (Nat.le_refl _) _).setCell (Nat.le_refl _) _).setCell (Nat.le_refl _) _)⟩, by simp [intOf]; omega⟩
      · refine fill3 (enc := fun p : Value × Att => attS.enc p.1 p.2) (fun i hi j hj => ?_) (by rw [HN.out]; rfl) (by rw [Hlen.out]; omega)
        rw [HNl.out i hi]; exact HX.out i hi j hj
      · intro p hp
        obtain ⟨h1, h2, h3, h4⟩ := HP2.out p hp
        exact ⟨h1, ownsRow_setCell_below (ownsRow_setCell_below (ownsRow_setCell_below h2 (by simp only []; omega) _) (by simp only []; omega) _) (by simp only []; omega) _, h3, h4⟩
    · obtain rfl : k = n := by omega
      have hlenps : ps.length = k := by have := congrArg List.length HM.out; simp at this; rw [this, Hn.out, Nat.min_self]
      have hml : ps.map (·.2) = l := by rw [HM.out, Hn.out, List.take_length]
      have hfin : xs = ps.flatMap (fun p => attS.enc p.1 p.2) := flat_ext (fun p : Value × Att => attS.enc p.1 p.2) 3 (fun _ => rfl) ps xs (by rw [hlenps]; exact HO.out.1) (fun i hi j hj => HX.out i (by omega) j hj)
      have hown : OwnAtts wr w.heap.size (.slice (some ⟨w.heap.size, 0, none⟩) k k) l := ⟨ps, hml, by rw [← hfin, ← Hn.out]; exact HO.out, fun p hp => ⟨(HP.out p hp).1, own_mono (HP.out p hp).2.1 (by omega), trivial, (HP.out p hp).2.2.2⟩, HW.out⟩
      have HO3 := Lib.hid hown
      clear HO HX HP HW HM hfin hown hml hlenps
      go_wp2
      go_ret
      exact ⟨_, _, _, rfl, HO3.out, hb⟩
end Go.Proofs.Ythkmgahbahaabaa
