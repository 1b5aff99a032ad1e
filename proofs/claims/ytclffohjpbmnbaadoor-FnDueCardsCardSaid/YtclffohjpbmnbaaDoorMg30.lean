import Derived.Test.YtclffohjpbmnbaaDoorMg23
import Derived.Test.YtclffohjpbmnbaaDoorMg25
import Derived.Test.YtclffohjpbmnbaaDoorMg29
import Derived.Test.YtclffohjpbmnbaaDoorMg11
import Derived.Test.YtclffohjpbmnbaaDoorMg27
/- DueFn: the names of the cards that are due, by both packages. -/
namespace Go.Proofs.YtclffohjpbmnbaaDoor
open Go.ChangeShapes Go.WideShapes Go.ChangeAt Go.RowKit

def GivesStrsC (l : List ByteArray) (code : Int) (w : World) (e : Ending) (w' : World) : Prop := ∃ a n c, e = .returned (.tuple #[.slice a n c, .int .i64 code]) ∧ OwnStrs w' w.heap.size (.slice a n c) l ∧ Below w.heap.size w w'
theorem GivesStrsC.none {l : List ByteArray} {c1 c2 : Int} {w w' : World} (h : l = []) (hc : c1 = c2) (hb : Below w.heap.size w w') : GivesStrsC l c1 w (.returned (.tuple #[.slice Option.none 0 0, .int .i64 c2])) w' :=
  ⟨Option.none, 0, 0, by rw [hc], by rw [h]; exact World.ownsRow_nil _ _ _ _, hb⟩
theorem GivesStrsC.mk {l : List ByteArray} {c1 c2 : Int} {a : Option Addr} {n c : Nat} {w w' : World} (hc : c1 = c2) (ho : OwnStrs w' w.heap.size (.slice a n c) l) (hb : Below w.heap.size w w') : GivesStrsC l c1 w (.returned (.tuple #[.slice a n c, .int .i64 c2])) w' :=
  ⟨a, n, c, by rw [hc], ho, hb⟩
theorem IntsC.grown {w w' : World} {a : Option Addr} {l : List Int} {row : Option Nat} (h : IntsC w a l) (hg : w.grownBy w' row) (hr : ∀ x, a = some x → some x.block ≠ row) : IntsC w' a l := by
  intro i hi
  obtain ⟨b, o, ha, hs, c0⟩ := h i hi
  exact ⟨b, o, ha, Nat.lt_of_lt_of_le hs hg.size, (World.cell?_of_block (a := ⟨b, o + i, none⟩) (hg.block b hs (hr _ ha))).trans c0⟩
def nameK (l : List Card) (x : Int) : ByteArray := (nth l x.toNat).name
def dueTo (l : List Card) (day : Int) (k : Nat) : List ByteArray := (((cardOrder l).take k).filter fun x => decide (dueK l x ≤ day)).map (nameK l)
def dueL (l : List Card) (day : Int) : List ByteArray := if dayC l day = 0 then dueTo l day l.length else []
theorem dueTo_yes {l : List Card} {day : Int} {k : Nat} (hk : k < l.length) (h : dueK l (nth (cardOrder l) k) ≤ day) : dueTo l day (k + 1) = dueTo l day k ++ [nameK l (nth (cardOrder l) k)] := by
  unfold dueTo; rw [take_nth _ k (by rw [cardOrder_len]; exact hk), List.filter_append, List.map_append]; simp [h]
theorem dueTo_no {l : List Card} {day : Int} {k : Nat} (hk : k < l.length) (h : ¬ dueK l (nth (cardOrder l) k) ≤ day) : dueTo l day (k + 1) = dueTo l day k := by
  unfold dueTo; rw [take_nth _ k (by rw [cardOrder_len]; exact hk), List.filter_append, List.map_append]; simp [h]
theorem dueTo_len (l : List Card) (day : Int) (k : Nat) : (dueTo l day k).length ≤ k := by
  unfold dueTo
  rw [List.length_map]
  exact Nat.le_trans (List.length_filter_le _ _) (by rw [List.length_take]; omega)
theorem dueL_len (l : List Card) (day : Int) : (dueL l day).length ≤ 1099511627776 := by
  unfold dueL
  split
  · rename_i h
    have := dueTo_len l day l.length
    have := okCards_len (dayC_zero h).1
    omega
  · exact Nat.zero_le _
set_option maxHeartbeats 2000000 in
theorem iDueCards_c (v : Value) (l : List Card) (day : Int) (w : World) (hv : CardsAt w v l) : Calls Tryd.prog 6 #[v, .int .i64 day] w (GivesStrsC (dueL l day) (dayC l day) w) := by
  have HV := Lib.hid hv
  have HQ := Lib.hid (dayCode_c v l day w hv)
  obtain ⟨a, n, cap, rfl, hn, hl, hm, hc⟩ := hv
  have Hc := Lib.hid hc; clear hc
  by_cases h0 : dayC l day = 0
  · have hok := (dayC_zero h0).1
    have Hok := Lib.hid hok
    have hn40 : n ≤ 40 := by rw [hn]; exact okCards_len hok
    have Hn := Lib.hid hn
    have HL : Hid (dueL l day = dueTo l day n) := Lib.hid (by unfold dueL; rw [if_pos h0, hn])
    have HZ := Lib.hid h0
    rw [h0] at HQ
    clear hok hn h0
    go_enter Tryd.func6, Tryd.ntmps6
    go_wp2_with fail
    refine HQ.out.mono ?_
    rintro e w1 ⟨rfl, hb1⟩
    clear HQ
    have hb0 := hb1.alloc hb1.size (.cells #[] 9)
    have HB := Lib.hid (byDue_c (.slice a n cap) l _ (HV.out.below hb0) (by rw [← Hn.out]; omega))
    go_wp2_with fail
    refine HB.out.mono ?_
    rintro e w2 ⟨a2, n2, c2, rfl, ho2, hn2, hb2⟩
    clear HB
    obtain rfl : n = n2 := by rw [hn2, Hn.out]
    have HOC : Hid (IntsC w2 a2 (cardOrder l)) := Lib.hid (kown_c ho2 (hn2.trans (cardOrder_len l).symm))
    have HO0 : Hid (OwnStrs w2 w.heap.size (.slice (some ⟨w1.heap.size, 0, none⟩) 0 0) (dueTo l day 0)) := Lib.hid (own_mono' (own_below (own_strs_empty w1) hb2) hb1.size)
    have HN0 : Hid (∀ x, a2 = some x → (Value.slice (some ⟨w1.heap.size, 0, none⟩) 0 0).ownBlock ≠ some x.block) := Lib.hid (fun x hx => by
      have := (World.ownsRow.lt ho2 x.block (by rw [own_block_slice, hx]; rfl)).1
      simp at this
      simp [Value.ownBlock]; omega)
    have hbb := bthen hb0 hb2
    clear hn2 ho2 hb2 hb0
    go_wp2
    go_loopw [7, 20] (fun s i wr => ∃ (k : Nat) (a' : Option Addr) (n' c' : Nat), i = .int .i64 k ∧ k ≤ n ∧ s = .slice a' n' c' ∧ Hid (OwnStrs wr w.heap.size (.slice a' n' c') (dueTo l day k)) ∧ Hid (IntsC wr a2 (cardOrder l)) ∧ Hid (∀ x, a2 = some x → (Value.slice a' n' c').ownBlock ≠ some x.block) ∧ Below w.heap.size w wr) (fun _ i _ => n - (intOf i).toNat)
    case atStart => exact ⟨0, _, _, _, rfl, Nat.zero_le _, rfl, HO0, HOC, HN0, hbb⟩
    case round =>
      clear HO0 HOC HN0 hbb
      obtain ⟨k, a', n', c', rfl, hk, rfl, HO, HI, HN, hb⟩ := hrel
      by_cases hlt : k < n
      · have hkl : k < l.length := by rw [← Hn.out]; exact hlt
        obtain ⟨q, hq, eq⟩ := cardOrder_nth l k hkl
        obtain ⟨b3, o3, rfl, hb3, d0⟩ := HI.out k (by rw [cardOrder_len]; exact hkl)
        rw [eq] at d0
        have hqn : q < n := by rw [Hn.out]; exact hq
        obtain ⟨b, o, rfl, hbs, -, x0, -, x2⟩ := (Hc.out.below hb) q hq
        have hlen := dueTo_len l day k
        have HY := Lib.hid (fun h => dueTo_yes (day := day) hkl h)
        have HX := Lib.hid (fun h => dueTo_no (day := day) hkl h)
        rw [eq] at HY HX
        simp only [dueK, nameK, Int.toNat_natCast] at HY HX
        clear hkl eq hq
        generalize (nth l q).due = y at *
        generalize (nth l q).name = s at *
        by_cases hle : y ≤ day
        · have HTT := Lib.hid (HY.out hle)
          clear HX HY
          go_wp2_with (at_builtin; refine wpList_app_strs rfl _ _ rfl w.heap.size _ _ rfl (HO.out.alloc _) _ _ _ [s] rfl rfl (strs_new _ _ _) (by simp; omega) (by have := hb.size; simp; omega) ?_)
          intro a6 n6 c6 w6 ho6 hg6 hw6 _
          have hb6 : Below w.heap.size w w6 := (hb.alloc hb.size _).grown hg6 (by have := hb.size; simp; omega) (fun g hg => (World.ownsRow.lt HO.out g hg).1)
          have HO6 : Hid (OwnStrs w6 w.heap.size (.slice a6 n6 c6) (dueTo l day (k + 1))) := Lib.hid (by rw [HTT.out]; exact ho6)
          have HI6 : Hid (IntsC w6 (some ⟨b3, o3, none⟩) (cardOrder l)) := Lib.hid ((HI.out.below ((Below.refl _ _).alloc (Nat.le_refl _) _)).grown hg6 (fun x hx h => HN.out x hx h.symm))
          have HN6 : Hid (∀ x, some (⟨b3, o3, none⟩ : Addr) = some x → (Value.slice a6 n6 c6).ownBlock ≠ some x.block) := Lib.hid (fun x hx => by
            rcases hw6 with h | h
            · rw [h]; exact HN.out x hx
            · rw [h]; cases hx; simp; omega)
          clear ho6 hg6 hw6 HO HI HN
          go_wp2
          exact ⟨⟨k + 1, a6, n6, c6, by go_num, hlt, rfl, HO6, HI6, HN6, hb6⟩, by simp [intOf]; omega⟩
        · have HTT := Lib.hid (HX.out hle)
          clear HX HY
          go_wp2
          exact ⟨⟨k + 1, a', n', c', by go_num, hlt, rfl, Lib.hid (by rw [HTT.out]; exact HO.out), HI, HN, hb⟩, by simp [intOf]; omega⟩
      · obtain rfl : k = n := by omega
        have HO3 : Hid (OwnStrs wr w.heap.size (.slice a' n' c') (dueL l day)) := Lib.hid (by rw [HL.out]; exact HO.out)
        clear HO
        go_wp2
        go_ret2
        exact GivesStrsC.mk HZ.out HO3.out hb
  · have H0 := Lib.hid h0
    have hne : (dayC l day != 0) = true := by simpa using h0
    have HL : Hid (dueL l day = []) := Lib.hid (by unfold dueL; rw [if_neg H0.out])
    clear hn h0
    generalize dayC l day = code at *
    go_enter Tryd.func6, Tryd.ntmps6
    go_wp2_with fail
    refine HQ.out.mono ?_
    rintro e w1 ⟨rfl, hb1⟩
    go_wp2
    go_ret2
    exact GivesStrsC.none HL.out rfl hb1
set_option maxHeartbeats 2000000 in
theorem sDueCards_c (v : Value) (l : List Card) (day : Int) (w : World) (hv : CardsAt w v l) : Calls Tryd.prog 7 #[v, .int .i64 day] w (GivesStrsC (dueL l day) (dayC l day) w) := by
  have HV := Lib.hid hv
  have HQ := Lib.hid (l25Code_c v l day w hv)
  obtain ⟨a, n, cap, rfl, hn, hl, hm, hc⟩ := hv
  have Hc := Lib.hid hc; clear hc
  by_cases h0 : dayC l day = 0
  · have hok := (dayC_zero h0).1
    have Hok := Lib.hid hok
    have hn40 : n ≤ 40 := by rw [hn]; exact okCards_len hok
    have Hn := Lib.hid hn
    have HL : Hid (dueL l day = dueTo l day n) := Lib.hid (by unfold dueL; rw [if_pos h0, hn])
    have HZ := Lib.hid h0
    rw [h0] at HQ
    clear hok hn h0
    go_enter Tryd.func7, Tryd.ntmps7
    go_wp2_with fail
    refine HQ.out.mono ?_
    rintro e w1 ⟨rfl, hb1⟩
    clear HQ
    have HB := Lib.hid (l25Order_c (.slice a n cap) l w1 (HV.out.below hb1) Hok.out)
    go_wp2_with fail
    refine HB.out.mono ?_
    rintro e w2 ⟨a2, n2, c2, rfl, ho2, hb2⟩
    clear HB
    obtain ⟨ax, nx, cx, he, hn2, -, -, hcc⟩ := OwnInts.at ho2
    cases he
    obtain rfl : n = n2 := by rw [hn2, cardOrder_len, Hn.out]
    have HOC : Hid (IntsC (w2.alloc (.cells #[] 9)) a2 (cardOrder l)) := Lib.hid (hcc.below ((Below.refl _ _).alloc (Nat.le_refl _) _))
    have HO0 : Hid (OwnStrs (w2.alloc (.cells #[] 9)) w.heap.size (.slice (some ⟨w2.heap.size, 0, none⟩) 0 0) (dueTo l day 0)) := Lib.hid (own_mono' (own_strs_empty w2) (bthen hb1 hb2).size)
    have HN0 : Hid (∀ x, a2 = some x → (Value.slice (some ⟨w2.heap.size, 0, none⟩) 0 0).ownBlock ≠ some x.block) := Lib.hid (fun x hx => by
      have := (World.ownsRow.lt ho2 x.block (by rw [own_block_slice, hx]; rfl)).2
      simp [Value.ownBlock]; omega)
    have hbb := (bthen hb1 hb2).alloc (bthen hb1 hb2).size (.cells #[] 9)
    clear hn2 ho2 hb2 hcc
    go_wp2
    go_loopw [8, 9] (fun s i wr => ∃ (k : Nat) (a' : Option Addr) (n' c' : Nat), i = .int .i64 k ∧ k ≤ n ∧ s = .slice a' n' c' ∧ Hid (OwnStrs wr w.heap.size (.slice a' n' c') (dueTo l day k)) ∧ Hid (IntsC wr a2 (cardOrder l)) ∧ Hid (∀ x, a2 = some x → (Value.slice a' n' c').ownBlock ≠ some x.block) ∧ Below w.heap.size w wr) (fun _ i _ => n - (intOf i).toNat)
    case atStart => exact ⟨0, _, _, _, rfl, Nat.zero_le _, rfl, HO0, HOC, HN0, hbb⟩
    case round =>
      clear HO0 HOC HN0 hbb
      obtain ⟨k, a', n', c', rfl, hk, rfl, HO, HI, HN, hb⟩ := hrel
      by_cases hlt : k < n
      · have hkl : k < l.length := by rw [← Hn.out]; exact hlt
        obtain ⟨q, hq, eq⟩ := cardOrder_nth l k hkl
        obtain ⟨b3, o3, rfl, hb3, d0⟩ := HI.out k (by rw [cardOrder_len]; exact hkl)
        rw [eq] at d0
        have hqn : q < n := by rw [Hn.out]; exact hq
        obtain ⟨b, o, rfl, hbs, -, x0, -, x2⟩ := (Hc.out.below hb) q hq
        have hlen := dueTo_len l day k
        have HY := Lib.hid (fun h => dueTo_yes (day := day) hkl h)
        have HX := Lib.hid (fun h => dueTo_no (day := day) hkl h)
        rw [eq] at HY HX
        simp only [dueK, nameK, Int.toNat_natCast] at HY HX
        clear hkl eq hq
        generalize (nth l q).due = y at *
        generalize (nth l q).name = s at *
        by_cases hle : y ≤ day
        · have HTT := Lib.hid (HY.out hle)
          clear HX HY
          go_wp2_with (at_builtin; refine wpList_app_strs rfl _ _ rfl w.heap.size _ _ rfl (HO.out.alloc _) _ _ _ [s] rfl rfl (strs_new _ _ _) (by simp; omega) (by have := hb.size; simp; omega) ?_)
          intro a6 n6 c6 w6 ho6 hg6 hw6 _
          have hb6 : Below w.heap.size w w6 := (hb.alloc hb.size _).grown hg6 (by have := hb.size; simp; omega) (fun g hg => (World.ownsRow.lt HO.out g hg).1)
          have HO6 : Hid (OwnStrs w6 w.heap.size (.slice a6 n6 c6) (dueTo l day (k + 1))) := Lib.hid (by rw [HTT.out]; exact ho6)
          have HI6 : Hid (IntsC w6 (some ⟨b3, o3, none⟩) (cardOrder l)) := Lib.hid ((HI.out.below ((Below.refl _ _).alloc (Nat.le_refl _) _)).grown hg6 (fun x hx h => HN.out x hx h.symm))
          have HN6 : Hid (∀ x, some (⟨b3, o3, none⟩ : Addr) = some x → (Value.slice a6 n6 c6).ownBlock ≠ some x.block) := Lib.hid (fun x hx => by
            rcases hw6 with h | h
            · rw [h]; exact HN.out x hx
            · rw [h]; cases hx; simp; omega)
          clear ho6 hg6 hw6 HO HI HN
          go_wp2
          exact ⟨⟨k + 1, a6, n6, c6, by go_num, hlt, rfl, HO6, HI6, HN6, hb6⟩, by simp [intOf]; omega⟩
        · have HTT := Lib.hid (HX.out hle)
          clear HX HY
          go_wp2
          exact ⟨⟨k + 1, a', n', c', by go_num, hlt, rfl, Lib.hid (by rw [HTT.out]; exact HO.out), HI, HN, hb⟩, by simp [intOf]; omega⟩
      · obtain rfl : k = n := by omega
        have HO3 : Hid (OwnStrs wr w.heap.size (.slice a' n' c') (dueL l day)) := Lib.hid (by rw [HL.out]; exact HO.out)
        clear HO
        go_wp2
        go_ret2
        exact GivesStrsC.mk HZ.out HO3.out hb
  · have H0 := Lib.hid h0
    have hne : (dayC l day != 0) = true := by simpa using h0
    have HL : Hid (dueL l day = []) := Lib.hid (by unfold dueL; rw [if_neg H0.out])
    clear hn h0
    generalize dayC l day = code at *
    go_enter Tryd.func7, Tryd.ntmps7
    go_wp2_with fail
    refine HQ.out.mono ?_
    rintro e w1 ⟨rfl, hb1⟩
    go_wp2
    go_ret2
    exact GivesStrsC.none HL.out rfl hb1
end Go.Proofs.YtclffohjpbmnbaaDoor

/- DueL: plain: what the law on cards that are due asks. -/

namespace Go.Proofs.YtclffohjpbmnbaaDoor
open Go.RowKit

/-- How many cards are due. -/
def cntDue (L : List Card) (day : Int) : Nat := (L.filter fun c => decide (c.due ≤ day)).length
theorem cntDue_le (L : List Card) (day : Int) : cntDue L day ≤ L.length := List.length_filter_le _ _
theorem cntDue_step (X : List Card) (e : Int) (k : Nat) (h : k < X.length) : cntDue (X.take (k + 1)) e = cntDue (X.take k) e + if (nth X k).due ≤ e then 1 else 0 := by
  rw [take_nth X k h]
  unfold cntDue
  rw [List.filter_append, List.length_append]
  by_cases h1 : (nth X k).due ≤ e <;> simp [h1]
theorem due_law {L : List Card} {day : Int} (h : dayC L day = 0) : (dueL L day).length = cntDue L day := by
  unfold dueL
  rw [if_pos h]
  unfold dueTo
  have hp : (cardOrder L).Perm (iota L.length) := order_perm _ _ _
  rw [List.length_map, List.take_of_length_le (by rw [hp.length_eq, iota_len]; exact Nat.le_refl _)]
  have h1 : ((cardOrder L).map fun x => nth L x.toNat).Perm L := by
    have h2 := hp.map (fun x : Int => nth L x.toNat)
    have h3 : (iota L.length).map (fun x : Int => nth L x.toNat) = L := by
      apply List.ext_getElem?
      intro i
      by_cases hi : i < L.length
      · rw [List.getElem?_map]
        have : (iota L.length)[i]? = some (i : Int) := by rw [nth_get? _ _ (by rw [iota_len]; exact hi), iota_nth _ _ hi]
        rw [this, nth_get? L i hi]; rfl
      · rw [List.getElem?_eq_none (by simp [iota_len]; omega), List.getElem?_eq_none (by omega)]
    rw [h3] at h2; exact h2
  have h4 := (h1.filter (fun c => decide (c.due ≤ day))).length_eq
  unfold cntDue
  rw [← h4, List.filter_map, List.length_map]
  rfl
end Go.Proofs.YtclffohjpbmnbaaDoor
