import Derived.Test.YtkggjejcajcppaaGreatMg15
import Derived.Test.YtkggjejcajcppaaGreatMg19
import Derived.Test.YtkggjejcajcppaaGreatMg6
/- Records: the attempts that were better than all before them, by both packages. -/
namespace Go.Proofs.YtkggjejcajcppaaGreat
open Go.ChangeShapes Go.WideShapes Go.ChangeAt Go.RowKit

def recF (l : List Att) : List Int → Int → List Int
  | [], _ => []
  | x :: own, best => if best < (nth l x.toNat).catches then x :: recF l own (nth l x.toNat).catches else recF l own best
theorem recF_step (l : List Att) (own : List Int) (best : Int) (k : Nat) (h : k < own.length) : recF l (own.drop k) best = if best < (nth l (nth own k).toNat).catches then nth own k :: recF l (own.drop (k + 1)) (nth l (nth own k).toNat).catches else recF l (own.drop (k + 1)) best := by
  rw [drop_nth own k h]; rfl
theorem recF_len (l : List Att) : ∀ (own : List Int) (best : Int), (recF l own best).length ≤ own.length
  | [], _ => Nat.le_refl _
  | x :: own, best => by
    unfold recF
    split
    · have := recF_len l own (nth l x.toNat).catches; simp; omega
    · have := recF_len l own best; simp; omega
def recL (l : List Att) (p : List Int) : List Int := recF l (askL l p) (-1)
theorem recL_len (l : List Att) (p : List Int) : (recL l p).length ≤ 1099511627776 := by have := recF_len l (askL l p) (-1); have := askL_len l p; unfold recL; omega
theorem askL_no {l : List Att} {p : List Int} (h : askCode l p ≠ 0) : recL l p = [] := by unfold recL askL; rw [if_neg h]; rfl
set_option maxHeartbeats 1000000 in
theorem sRecordsOf_c (v u : Value) (l : List Att) (p : List Int) (w : World) (hv : AttsAt w v l) (hu : IntsAt w u p) :
    Calls Tryz.prog 9 #[v, u] w (GivesIntsC (recL l p) (askCode l p) w) := by
  have HQ := Lib.hid (l24Ask_c v u l p w hv hu)
  obtain ⟨a, n, cap, rfl, hn, -, -, hc⟩ := hv
  have Hc := Lib.hid hc; clear hc
  have Hn := Lib.hid hn; clear hn hu
  go_enter Tryz.func9, Tryz.ntmps9
  go_wp2_with fail
  refine HQ.out.mono ?_
  intro e w1 hp
  obtain ⟨a1, m, c1, rfl, ho, hb1⟩ := ask_gen hp
  clear hp HQ
  by_cases h0 : askCode l p = 0
  · rw [h0]
    have HZ := Lib.hid h0
    have Hlen := Lib.hid (askL_len l p)
    obtain ⟨ax, mx, cx, he, hm, -, -, hc'⟩ := ho
    cases he
    have Hx := Lib.hid (fun i hi => ((okAtts_nth (askCode_ok h0)).1 i hi).2)
    clear h0
    have Hc1 := Lib.hid (Hc.out.below hb1)
    have Hc' := Lib.hid hc'; clear hc' Hc
    have hm100 : m ≤ 100 := by have := Hlen.out; omega
    have Hm := Lib.hid hm; clear hm
    have Ho := Lib.hid (askL_nth l p)
    have Hs := Lib.hid hb1.size
    go_wp2
    go_loopw [8, 9, 10] (fun s t i wr => ∃ (k : Nat) (b : Int) (a' : Option Addr) (n' c' : Nat) (out : List Int), i = .int .i64 k ∧ k ≤ m ∧ t = .int .i64 b ∧ -1 ≤ b ∧ s = .slice a' n' c' ∧ Hid (OwnInts wr w1.heap.size (.slice a' n' c') out) ∧ Hid (out.length ≤ k) ∧ Hid (recL l p = out ++ recF l ((askL l p).drop k) b) ∧ Below w1.heap.size w1 wr) (fun _ _ i _ => m - (intOf i).toNat)
    case atStart => exact ⟨0, -1, _, _, _, _, rfl, Nat.zero_le _, rfl, Int.le_refl _, rfl, Lib.hid (own_empty w1), Lib.hid (Nat.le_refl _), Lib.hid rfl, by go_grown⟩
    case round =>
      obtain ⟨k, best, a', n', c', out, rfl, hk, rfl, hb0, rfl, HO, HL, HR, hb⟩ := hrel
      by_cases hlt : k < m
      · obtain ⟨b', o', rfl, hbs', d0⟩ := (Hc'.out.below hb) k (by rw [← Hm.out]; exact hlt)
        obtain ⟨j, hj, hjl⟩ := Ho.out k (by rw [← Hm.out]; exact hlt)
        have hjn : j < n := by rw [Hn.out]; exact hjl
        obtain ⟨b, o, pa, pn, pc, rfl, hbs, hp, c0, c1, c2⟩ := att_cells (Hc1.out.below hb) j hjl
        have HT := Lib.hid (HR.out.trans (congrArg (out ++ ·) (recF_step l (askL l p) best k (by rw [← Hm.out]; exact hlt))))
        have HJ := Lib.hid hj
        rw [hj] at d0
        have hj2 : (nth (askL l p) k).toNat = j := by rw [hj]; rfl
        have HU : Hid (recL l p = out ++ if best < (nth l j).catches then (j : Int) :: recF l ((askL l p).drop (k + 1)) (nth l j).catches else recF l ((askL l p).drop (k + 1)) best) := Lib.hid (by have := HT.out; rw [hj2, hj] at this; exact this)
        obtain ⟨hx0, hx1⟩ := Hx.out j hjl
        clear hp hj hj2 hjl HR HT HJ
        generalize nth l j = x at *
        obtain ⟨xp, xc, xd⟩ := x
        dsimp only at c1 c2 HU hx0 hx1
        have hsz := hb.size
        by_cases hbest : best < xc
        · have HT : Hid (recL l p = (out ++ [(j : Int)]) ++ recF l ((askL l p).drop (k + 1)) xc) := Lib.hid (by rw [HU.out, if_pos hbest, List.append_assoc]; rfl)
          clear HU
          go_wp2_with (at_builtin; refine wpList_app_ints rfl _ _ rfl w1.heap.size _ _ rfl (HO.out.alloc _) _ _ _ [(j : Int)] rfl rfl (ints_new _ _ _) (by have := HL.out; simp; omega) (by simp; omega) ?_)
          intro a4 n4 c4 w6 ho4 hg4 _ _
          have hb6 : Below w1.heap.size w1 w6 := (hb.alloc (by omega) _).grown hg4 (by simp; omega) (fun g hg => (World.ownsRow.lt HO.out g hg).1)
          have HO4 := Lib.hid ho4
          clear ho4 hg4 HO
          go_wp2
          exact ⟨⟨k + 1, xc, a4, n4, c4, _, by go_num, hlt, rfl, by omega, rfl, HO4, Lib.hid (by have := HL.out; simp; omega), HT, hb6⟩, by simp [intOf]; omega⟩
        · have HT : Hid (recL l p = out ++ recF l ((askL l p).drop (k + 1)) best) := Lib.hid (by rw [HU.out, if_neg hbest])
          clear HU
          go_wp2
          exact ⟨⟨k + 1, best, a', n', c', _, by go_num, hlt, rfl, hb0, rfl, HO, Lib.hid (by have := HL.out; omega), HT, hb⟩, by simp [intOf]; omega⟩
      · have HO3 : Hid (OwnInts wr w1.heap.size (.slice a' n' c') (recL l p)) := Lib.hid (by have h := HR.out; rw [drop_end _ k m Hm.out (by omega)] at h; simp only [recF, List.append_nil] at h; rw [h]; exact HO.out)
        clear HO HR
        go_wp2
        go_ret2
        exact GivesIntsC.mk HZ.out (own_mono HO3.out Hs.out) (bthen hb1 hb)
  · have HN := Lib.hid (askL_no h0)
    have hne : (askCode l p != 0) = true := by simpa using h0
    clear ho
    generalize askCode l p = code at *
    go_wp2
    go_ret2
    exact GivesIntsC.none HN.out rfl hb1
set_option maxHeartbeats 1000000 in
theorem iRecordsOf_c (v u : Value) (l : List Att) (p : List Int) (w : World) (hv : AttsAt w v l) (hu : IntsAt w u p) :
    Calls Tryz.prog 8 #[v, u] w (GivesIntsC (recL l p) (askCode l p) w) := by
  have HQ := Lib.hid (attemptsAt_c v u l p w hv hu)
  obtain ⟨a, n, cap, rfl, hn, -, -, hc⟩ := hv
  have Hc := Lib.hid hc; clear hc
  have Hn := Lib.hid hn; clear hn hu
  go_enter Tryz.func8, Tryz.ntmps8
  go_wp2_with fail
  refine HQ.out.mono ?_
  intro e w1 hp
  obtain ⟨a1, m, c1, rfl, ho, hb1⟩ := ask_gen hp
  clear hp HQ
  by_cases h0 : askCode l p = 0
  · rw [h0]
    have HZ := Lib.hid h0
    have Hlen := Lib.hid (askL_len l p)
    obtain ⟨ax, mx, cx, he, hm, -, -, hc'⟩ := ho
    cases he
    have Hx := Lib.hid (fun i hi => ((okAtts_nth (askCode_ok h0)).1 i hi).2)
    clear h0
    have Hc1 := Lib.hid (Hc.out.below hb1)
    have Hc' := Lib.hid hc'; clear hc' Hc
    have hm100 : m ≤ 100 := by have := Hlen.out; omega
    have Hm := Lib.hid hm; clear hm
    have Ho := Lib.hid (askL_nth l p)
    have Hs := Lib.hid hb1.size
    go_wp2
    go_loopw [8, 9, 25] (fun s t i wr => ∃ (k : Nat) (b : Int) (a' : Option Addr) (n' c' : Nat) (out : List Int), i = .int .i64 k ∧ k ≤ m ∧ t = .int .i64 b ∧ -1 ≤ b ∧ s = .slice a' n' c' ∧ Hid (OwnInts wr w1.heap.size (.slice a' n' c') out) ∧ Hid (out.length ≤ k) ∧ Hid (recL l p = out ++ recF l ((askL l p).drop k) b) ∧ Below w1.heap.size w1 wr) (fun _ _ i _ => m - (intOf i).toNat)
    case atStart => exact ⟨0, -1, _, _, _, _, rfl, Nat.zero_le _, rfl, Int.le_refl _, rfl, Lib.hid (own_empty w1), Lib.hid (Nat.le_refl _), Lib.hid rfl, by go_grown⟩
    case round =>
      obtain ⟨k, best, a', n', c', out, rfl, hk, rfl, hb0, rfl, HO, HL, HR, hb⟩ := hrel
      by_cases hlt : k < m
      · obtain ⟨b', o', rfl, hbs', d0⟩ := (Hc'.out.below hb) k (by rw [← Hm.out]; exact hlt)
        obtain ⟨j, hj, hjl⟩ := Ho.out k (by rw [← Hm.out]; exact hlt)
        have hjn : j < n := by rw [Hn.out]; exact hjl
        obtain ⟨b, o, pa, pn, pc, rfl, hbs, hp, c0, c1, c2⟩ := att_cells (Hc1.out.below hb) j hjl
        have HT := Lib.hid (HR.out.trans (congrArg (out ++ ·) (recF_step l (askL l p) best k (by rw [← Hm.out]; exact hlt))))
        have HJ := Lib.hid hj
        rw [hj] at d0
        have hj2 : (nth (askL l p) k).toNat = j := by rw [hj]; rfl
        have HU : Hid (recL l p = out ++ if best < (nth l j).catches then (j : Int) :: recF l ((askL l p).drop (k + 1)) (nth l j).catches else recF l ((askL l p).drop (k + 1)) best) := Lib.hid (by have := HT.out; rw [hj2, hj] at this; exact this)
        obtain ⟨hx0, hx1⟩ := Hx.out j hjl
        clear hp hj hj2 hjl HR HT HJ
        generalize nth l j = x at *
        obtain ⟨xp, xc, xd⟩ := x
        dsimp only at c1 c2 HU hx0 hx1
        have hsz := hb.size
        by_cases hbest : best < xc
        · have HT : Hid (recL l p = (out ++ [(j : Int)]) ++ recF l ((askL l p).drop (k + 1)) xc) := Lib.hid (by rw [HU.out, if_pos hbest, List.append_assoc]; rfl)
          clear HU
          go_wp2_with (at_builtin; refine wpList_app_ints rfl _ _ rfl w1.heap.size _ _ rfl (HO.out.alloc _) _ _ _ [(j : Int)] rfl rfl (ints_new _ _ _) (by have := HL.out; simp; omega) (by simp; omega) ?_)
          intro a4 n4 c4 w6 ho4 hg4 _ _
          have hb6 : Below w1.heap.size w1 w6 := (hb.alloc (by omega) _).grown hg4 (by simp; omega) (fun g hg => (World.ownsRow.lt HO.out g hg).1)
          have HO4 := Lib.hid ho4
          clear ho4 hg4 HO
          go_wp2
          exact ⟨⟨k + 1, xc, a4, n4, c4, _, by go_num, hlt, rfl, by omega, rfl, HO4, Lib.hid (by have := HL.out; simp; omega), HT, hb6⟩, by simp [intOf]; omega⟩
        · have HT : Hid (recL l p = out ++ recF l ((askL l p).drop (k + 1)) best) := Lib.hid (by rw [HU.out, if_neg hbest])
          clear HU
          go_wp2
          exact ⟨⟨k + 1, best, a', n', c', _, by go_num, hlt, rfl, hb0, rfl, HO, Lib.hid (by have := HL.out; omega), HT, hb⟩, by simp [intOf]; omega⟩
      · have HO3 : Hid (OwnInts wr w1.heap.size (.slice a' n' c') (recL l p)) := Lib.hid (by have h := HR.out; rw [drop_end _ k m Hm.out (by omega)] at h; simp only [recF, List.append_nil] at h; rw [h]; exact HO.out)
        clear HO HR
        go_wp2
        go_ret2
        exact GivesIntsC.mk HZ.out (own_mono HO3.out Hs.out) (bthen hb1 hb)
  · have HN := Lib.hid (askL_no h0)
    have hne : (askCode l p != 0) = true := by simpa using h0
    clear ho
    generalize askCode l p = code at *
    go_wp2
    go_ret2
    exact GivesIntsC.none HN.out rfl hb1
end Go.Proofs.YtkggjejcajcppaaGreat
