import Derived.Test.YtclffohjpbmnbaaGreatDoorMg15
import Derived.Test.YtclffohjpbmnbaaGreatDoorMg8
import Derived.Test.YtclffohjpbmnbaaGreatDoorMg3
import Derived.RegionTactic
/- SumA: numbers about the attempts at a pattern: as functions of lists. -/
namespace Go.Proofs.YtclffohjpbmnbaaGreatDoor
open Go.ChangeShapes Go.WideShapes Go.ChangeAt Go.RowKit

structure Sm where
  att : Int
  cat : Int
  best : Int
  drops : Int
  flashes : Int
  runs : Int
def smStep (P : Int) (s : Sm) (x : Att) : Sm :=
  ⟨s.att + 1, s.cat + x.catches, mx s.best x.catches, if x.dropped then s.drops + 1 else s.drops,
   if 2 * P ≤ x.catches then s.flashes else if P ≤ x.catches then s.flashes + 1 else s.flashes, if 2 * P ≤ x.catches then s.runs + 1 else s.runs⟩
def smF (l : List Att) (P : Int) : List Int → Sm → Sm
  | [], s => s
  | i :: own, s => smF l P own (smStep P s (nth l i.toNat))
theorem smF_step (l : List Att) (P : Int) (own : List Int) (s : Sm) (k j : Nat) (h : k < own.length) (hj : nth own k = (j : Int)) : smF l P (own.drop k) s = smF l P (own.drop (k + 1)) (smStep P s (nth l j)) := by
  rw [drop_nth own k h, hj]; rfl
def sumZ : Sm := ⟨0, 0, 0, 0, 0, 0⟩
def sumL (l : List Att) (p : List Int) : Sm := if askCode l p = 0 then smF l (propsL p) (askL l p) sumZ else sumZ
def smCells (s : Sm) : List Value := [.int .i64 s.att, .int .i64 s.cat, .int .i64 s.best, .int .i64 s.drops, .int .i64 s.flashes, .int .i64 s.runs]
/-- A summary and a code. -/
def GivesSm (s : Sm) (code : Int) (w : World) (e : Ending) (w' : World) : Prop :=
  e = .returned (.tuple #[.agg #[.int .i64 s.att, .int .i64 s.cat, .int .i64 s.best, .int .i64 s.drops, .int .i64 s.flashes, .int .i64 s.runs], .int .i64 code]) ∧ Below w.heap.size w w'
theorem askCode_pat {l : List Att} {p : List Int} (h : askCode l p = 0) : okPat p = true := by
  unfold askCode at h
  cases hE : okPat p
  · rw [hE] at h; simp at h
  · rfl
set_option maxHeartbeats 2000000 in
theorem iSummaryOf_c (v u : Value) (l : List Att) (p : List Int) (w : World) (hv : AttsAt w v l) (hu : IntsAt w u p) :
    Calls Tryz.prog 42 #[v, u] w (GivesSm (sumL l p) (askCode l p) w) := by
  have HQ := Lib.hid (fun W x y => attemptsAt_c v u l p W x y)
  have HV := Lib.hid hv
  have HU := Lib.hid hu
  obtain ⟨a, n, cap, rfl, hn, -, -, hc⟩ := hv
  have Hc := Lib.hid hc; clear hc
  have Hn := Lib.hid hn; clear hn hu
  go_enter Tryz.func42, Tryz.ntmps42
  go_wp2_with fail
  refine (HQ.out _ (HV.out.below (by go_grown)) (HU.out.below (by go_grown))).mono ?_
  intro e w1 hp
  obtain ⟨a1, m, c1, rfl, ho, hb1⟩ := ask_gen hp
  have B1 := (BoxIs.new w _ _).below hb1
  have hb1' := bthen (by go_grown : Below w.heap.size w _) hb1
  clear hp HQ hb1
  have HB1 := Lib.hid B1
  clear B1
  have HU1 := Lib.hid (HU.out.below hb1')
  by_cases h0 : askCode l p = 0
  · rw [h0]
    have ht := okPat_throws (askCode_pat h0)
    have HP := Lib.hid (propsOf_c u p w1 HU1.out ht)
    have hP := propsL_in ht
    have HR : Hid (sumL l p = smF l (propsL p) (askL l p) sumZ) := Lib.hid (by unfold sumL; rw [if_pos h0])
    have Hlen := Lib.hid (askL_len l p)
    obtain ⟨ax, mx', cx, he, hm, -, -, hc'⟩ := ho
    cases he
    have Hx := Lib.hid (fun i hi => ((okAtts_nth (askCode_ok h0)).1 i hi).2)
    have HZ := Lib.hid h0
    clear h0 ht
    have Hc1 := Lib.hid (Hc.out.below hb1')
    have Hc' := Lib.hid hc'; clear hc' Hc
    have hm100 : m ≤ 100 := by have := Hlen.out; omega
    have Hm := Lib.hid hm; clear hm
    have Ho := Lib.hid (askL_nth l p)
    generalize propsL p = P at *
    go_wp2_with fail
    refine HP.out.mono ?_
    rintro e w2 ⟨rfl, hb2⟩
    have HB2 := Lib.hid (HB1.out.below hb2)
    have Hc2 := Lib.hid (Hc1.out.below hb2)
    have Hc2' := Lib.hid (Hc'.out.below hb2)
    have hb12 := bthen hb1' hb2
    clear HB1 Hc1 Hc' HP
    go_wp2
    go_loopw [28] (fun i wr => ∃ (k : Nat) (c b d f r : Int), i = .int .i64 k ∧ k ≤ m ∧ 0 ≤ c ∧ c ≤ 100000 * k ∧ 0 ≤ b ∧ b ≤ 100000 ∧ 0 ≤ d ∧ d ≤ k ∧ 0 ≤ f ∧ f ≤ k ∧ 0 ≤ r ∧ r ≤ k ∧ Hid (BoxIs wr w2.heap.size [.int .i64 k, .int .i64 c, .int .i64 b, .int .i64 d, .int .i64 f, .int .i64 r]) ∧ Hid (sumL l p = smF l P ((askL l p).drop k) ⟨k, c, b, d, f, r⟩) ∧ Below w2.heap.size w2 wr) (fun i _ => m - (intOf i).toNat)
    case atStart => exact ⟨0, 0, 0, 0, 0, 0, rfl, Nat.zero_le _, by omega, by omega, by omega, by omega, by omega, by omega, by omega, by omega, by omega, by omega, Lib.hid (BoxIs.new _ _ _), HR, by go_grown⟩
    case round =>
      obtain ⟨k, c, b, d, f, r, rfl, hk, hc0, hcB, hb0, hbB, hd0, hdB, hf0, hfB, hr0, hrB, HB, HS, hb⟩ := hrel
      by_cases hlt : k < m
      · obtain ⟨b', o', rfl, hbs', d0⟩ := (Hc2'.out.below hb) k (by rw [← Hm.out]; exact hlt)
        obtain ⟨j, hj, hjl⟩ := Ho.out k (by rw [← Hm.out]; exact hlt)
        have hjn : j < n := by rw [Hn.out]; exact hjl
        obtain ⟨bb, oo, pa, pn, pc, rfl, hbs, hp, c0, c1, c2⟩ := att_cells (Hc2.out.below hb) j hjl
        have HT := Lib.hid (HS.out.trans (smF_step l P (askL l p) ⟨k, c, b, d, f, r⟩ k j (by rw [← Hm.out]; exact hlt) hj))
        rw [hj] at d0
        obtain ⟨hx0, hx1⟩ := Hx.out j hjl
        clear hp HS hj hjl
        generalize nth l j = x at *
        obtain ⟨xp, xc, xd⟩ := x
        dsimp only at c1 c2 hx0 hx1
        obtain ⟨eO, fO⟩ := HB.out.cells
        have hOlt := HB.out.1
        have hOne : w2.heap.size ≠ wr.heap.size := by omega
        have hw1 : IntKind.i64.wrap ((k : Int) + 1) = (k : Int) + 1 := IntWalk.i64_in _ (by omega)
        have hw2 : IntKind.i64.wrap (c + xc) = c + xc := IntWalk.i64_in _ (by omega)
        have hw3 : IntKind.i64.wrap (d + 1) = d + 1 := IntWalk.i64_in _ (by omega)
        have hw4 : IntKind.i64.wrap (f + 1) = f + 1 := IntWalk.i64_in _ (by omega)
        have hw5 : IntKind.i64.wrap (r + 1) = r + 1 := IntWalk.i64_in _ (by omega)
        have hw6 : IntKind.i64.wrap (2 * P) = 2 * P := IntWalk.i64_in _ (by omega)
        cases xd
        · by_cases hmx : b < xc
          · by_cases h2 : 2 * P ≤ xc
            · have hst : smStep P ⟨k, c, b, d, f, r⟩ ⟨xp, xc, false⟩ = ⟨(k : Int) + 1, c + xc, xc, d, f, (r + 1)⟩ := by unfold smStep mx; simp [hmx, h2]
              have HU2 : Hid (sumL l p = smF l P ((askL l p).drop (k + 1)) ⟨((k + 1 : Nat) : Int), c + xc, xc, d, f, (r + 1)⟩) := Lib.hid (by rw [HT.out, hst]; rfl)
              clear hst HT
              go_wp2
              exact ⟨⟨k + 1, c + xc, xc, d, f, (r + 1), by go_num, hlt, by omega, by omega, by omega, by omega, by omega, by omega, by omega, by omega, by omega, by omega, Lib.hid (((((HB.out.set 0 (by simp) (.int .i64 ((k : Int) + 1))).set 1 (by simp) (.int .i64 (c + xc))).set 2 (by simp) (.int .i64 xc)).set 5 (by simp) (.int .i64 (r + 1))).alloc _), HU2, ((((hb.setCell (p := ⟨w2.heap.size, 0, none⟩) (Nat.le_refl _) (.int .i64 ((k : Int) + 1))).setCell (p := ⟨w2.heap.size, 1, none⟩) (Nat.le_refl _) (.int .i64 (c + xc))).setCell (p := ⟨w2.heap.size, 2, none⟩) (Nat.le_refl _) (.int .i64 xc)).setCell (p := ⟨w2.heap.size, 5, none⟩) (Nat.le_refl _) (.int .i64 (r + 1))).alloc (by simp only [World.size_setCell]; omega) _⟩, by simp [intOf]; omega⟩
            · by_cases h3 : P ≤ xc
              · have hst : smStep P ⟨k, c, b, d, f, r⟩ ⟨xp, xc, false⟩ = ⟨(k : Int) + 1, c + xc, xc, d, (f + 1), r⟩ := by unfold smStep mx; simp [hmx, h2, h3]
                have HU2 : Hid (sumL l p = smF l P ((askL l p).drop (k + 1)) ⟨((k + 1 : Nat) : Int), c + xc, xc, d, (f + 1), r⟩) := Lib.hid (by rw [HT.out, hst]; rfl)
                clear hst HT
                go_wp2
                exact ⟨⟨k + 1, c + xc, xc, d, (f + 1), r, by go_num, hlt, by omega, by omega, by omega, by omega, by omega, by omega, by omega, by omega, by omega, by omega, Lib.hid (((((HB.out.set 0 (by simp) (.int .i64 ((k : Int) + 1))).set 1 (by simp) (.int .i64 (c + xc))).set 2 (by simp) (.int .i64 xc)).set 4 (by simp) (.int .i64 (f + 1))).alloc _), HU2, ((((hb.setCell (p := ⟨w2.heap.size, 0, none⟩) (Nat.le_refl _) (.int .i64 ((k : Int) + 1))).setCell (p := ⟨w2.heap.size, 1, none⟩) (Nat.le_refl _) (.int .i64 (c + xc))).setCell (p := ⟨w2.heap.size, 2, none⟩) (Nat.le_refl _) (.int .i64 xc)).setCell (p := ⟨w2.heap.size, 4, none⟩) (Nat.le_refl _) (.int .i64 (f + 1))).alloc (by simp only [World.size_setCell]; omega) _⟩, by simp [intOf]; omega⟩
              · have hst : smStep P ⟨k, c, b, d, f, r⟩ ⟨xp, xc, false⟩ = ⟨(k : Int) + 1, c + xc, xc, d, f, r⟩ := by unfold smStep mx; simp [hmx, h2, h3]
                have HU2 : Hid (sumL l p = smF l P ((askL l p).drop (k + 1)) ⟨((k + 1 : Nat) : Int), c + xc, xc, d, f, r⟩) := Lib.hid (by rw [HT.out, hst]; rfl)
                clear hst HT
                go_wp2
                exact ⟨⟨k + 1, c + xc, xc, d, f, r, by go_num, hlt, by omega, by omega, by omega, by omega, by omega, by omega, by omega, by omega, by omega, by omega, Lib.hid ((((HB.out.set 0 (by simp) (.int .i64 ((k : Int) + 1))).set 1 (by simp) (.int .i64 (c + xc))).set 2 (by simp) (.int .i64 xc)).alloc _), HU2, (((hb.setCell (p := ⟨w2.heap.size, 0, none⟩) (Nat.le_refl _) (.int .i64 ((k : Int) + 1))).setCell (p := ⟨w2.heap.size, 1, none⟩) (Nat.le_refl _) (.int .i64 (c + xc))).setCell (p := ⟨w2.heap.size, 2, none⟩) (Nat.le_refl _) (.int .i64 xc)).alloc (by simp only [World.size_setCell]; omega) _⟩, by simp [intOf]; omega⟩
          · by_cases h2 : 2 * P ≤ xc
            · have hst : smStep P ⟨k, c, b, d, f, r⟩ ⟨xp, xc, false⟩ = ⟨(k : Int) + 1, c + xc, b, d, f, (r + 1)⟩ := by unfold smStep mx; simp [hmx, h2]
              have HU2 : Hid (sumL l p = smF l P ((askL l p).drop (k + 1)) ⟨((k + 1 : Nat) : Int), c + xc, b, d, f, (r + 1)⟩) := Lib.hid (by rw [HT.out, hst]; rfl)
              clear hst HT
              go_wp2
              exact ⟨⟨k + 1, c + xc, b, d, f, (r + 1), by go_num, hlt, by omega, by omega, by omega, by omega, by omega, by omega, by omega, by omega, by omega, by omega, Lib.hid (((((HB.out.set 0 (by simp) (.int .i64 ((k : Int) + 1))).set 1 (by simp) (.int .i64 (c + xc))).set 2 (by simp) (.int .i64 b)).set 5 (by simp) (.int .i64 (r + 1))).alloc _), HU2, ((((hb.setCell (p := ⟨w2.heap.size, 0, none⟩) (Nat.le_refl _) (.int .i64 ((k : Int) + 1))).setCell (p := ⟨w2.heap.size, 1, none⟩) (Nat.le_refl _) (.int .i64 (c + xc))).setCell (p := ⟨w2.heap.size, 2, none⟩) (Nat.le_refl _) (.int .i64 b)).setCell (p := ⟨w2.heap.size, 5, none⟩) (Nat.le_refl _) (.int .i64 (r + 1))).alloc (by simp only [World.size_setCell]; omega) _⟩, by simp [intOf]; omega⟩
            · by_cases h3 : P ≤ xc
              · have hst : smStep P ⟨k, c, b, d, f, r⟩ ⟨xp, xc, false⟩ = ⟨(k : Int) + 1, c + xc, b, d, (f + 1), r⟩ := by unfold smStep mx; simp [hmx, h2, h3]
                have HU2 : Hid (sumL l p = smF l P ((askL l p).drop (k + 1)) ⟨((k + 1 : Nat) : Int), c + xc, b, d, (f + 1), r⟩) := Lib.hid (by rw [HT.out, hst]; rfl)
                clear hst HT
                go_wp2
                exact ⟨⟨k + 1, c + xc, b, d, (f + 1), r, by go_num, hlt, by omega, by omega, by omega, by omega, by omega, by omega, by omega, by omega, by omega, by omega, Lib.hid (((((HB.out.set 0 (by simp) (.int .i64 ((k : Int) + 1))).set 1 (by simp) (.int .i64 (c + xc))).set 2 (by simp) (.int .i64 b)).set 4 (by simp) (.int .i64 (f + 1))).alloc _), HU2, ((((hb.setCell (p := ⟨w2.heap.size, 0, none⟩) (Nat.le_refl _) (.int .i64 ((k : Int) + 1))).setCell (p := ⟨w2.heap.size, 1, none⟩) (Nat.le_refl _) (.int .i64 (c + xc))).setCell (p := ⟨w2.heap.size, 2, none⟩) (Nat.le_refl _) (.int .i64 b)).setCell (p := ⟨w2.heap.size, 4, none⟩) (Nat.le_refl _) (.int .i64 (f + 1))).alloc (by simp only [World.size_setCell]; omega) _⟩, by simp [intOf]; omega⟩
              · have hst : smStep P ⟨k, c, b, d, f, r⟩ ⟨xp, xc, false⟩ = ⟨(k : Int) + 1, c + xc, b, d, f, r⟩ := by unfold smStep mx; simp [hmx, h2, h3]
                have HU2 : Hid (sumL l p = smF l P ((askL l p).drop (k + 1)) ⟨((k + 1 : Nat) : Int), c + xc, b, d, f, r⟩) := Lib.hid (by rw [HT.out, hst]; rfl)
                clear hst HT
                go_wp2
                exact ⟨⟨k + 1, c + xc, b, d, f, r, by go_num, hlt, by omega, by omega, by omega, by omega, by omega, by omega, by omega, by omega, by omega, by omega, Lib.hid ((((HB.out.set 0 (by simp) (.int .i64 ((k : Int) + 1))).set 1 (by simp) (.int .i64 (c + xc))).set 2 (by simp) (.int .i64 b)).alloc _), HU2, (((hb.setCell (p := ⟨w2.heap.size, 0, none⟩) (Nat.le_refl _) (.int .i64 ((k : Int) + 1))).setCell (p := ⟨w2.heap.size, 1, none⟩) (Nat.le_refl _) (.int .i64 (c + xc))).setCell (p := ⟨w2.heap.size, 2, none⟩) (Nat.le_refl _) (.int .i64 b)).alloc (by simp only [World.size_setCell]; omega) _⟩, by simp [intOf]; omega⟩
        · by_cases hmx : b < xc
          · by_cases h2 : 2 * P ≤ xc
            · have hst : smStep P ⟨k, c, b, d, f, r⟩ ⟨xp, xc, true⟩ = ⟨(k : Int) + 1, c + xc, xc, (d + 1), f, (r + 1)⟩ := by unfold smStep mx; simp [hmx, h2]
              have HU2 : Hid (sumL l p = smF l P ((askL l p).drop (k + 1)) ⟨((k + 1 : Nat) : Int), c + xc, xc, (d + 1), f, (r + 1)⟩) := Lib.hid (by rw [HT.out, hst]; rfl)
              clear hst HT
              go_wp2
              exact ⟨⟨k + 1, c + xc, xc, (d + 1), f, (r + 1), by go_num, hlt, by omega, by omega, by omega, by omega, by omega, by omega, by omega, by omega, by omega, by omega, Lib.hid ((((((HB.out.set 0 (by simp) (.int .i64 ((k : Int) + 1))).set 1 (by simp) (.int .i64 (c + xc))).set 2 (by simp) (.int .i64 xc)).set 3 (by simp) (.int .i64 (d + 1))).set 5 (by simp) (.int .i64 (r + 1))).alloc _), HU2, (((((hb.setCell (p := ⟨w2.heap.size, 0, none⟩) (Nat.le_refl _) (.int .i64 ((k : Int) + 1))).setCell (p := ⟨w2.heap.size, 1, none⟩) (Nat.le_refl _) (.int .i64 (c + xc))).setCell (p := ⟨w2.heap.size, 2, none⟩) (Nat.le_refl _) (.int .i64 xc)).setCell (p := ⟨w2.heap.size, 3, none⟩) (Nat.le_refl _) (.int .i64 (d + 1))).setCell (p := ⟨w2.heap.size, 5, none⟩) (Nat.le_refl _) (.int .i64 (r + 1))).alloc (by simp only [World.size_setCell]; omega) _⟩, by simp [intOf]; omega⟩
            · by_cases h3 : P ≤ xc
              · have hst : smStep P ⟨k, c, b, d, f, r⟩ ⟨xp, xc, true⟩ = ⟨(k : Int) + 1, c + xc, xc, (d + 1), (f + 1), r⟩ := by unfold smStep mx; simp [hmx, h2, h3]
                have HU2 : Hid (sumL l p = smF l P ((askL l p).drop (k + 1)) ⟨((k + 1 : Nat) : Int), c + xc, xc, (d + 1), (f + 1), r⟩) := Lib.hid (by rw [HT.out, hst]; rfl)
                clear hst HT
                go_wp2
                exact ⟨⟨k + 1, c + xc, xc, (d + 1), (f + 1), r, by go_num, hlt, by omega, by omega, by omega, by omega, by omega, by omega, by omega, by omega, by omega, by omega, Lib.hid ((((((HB.out.set 0 (by simp) (.int .i64 ((k : Int) + 1))).set 1 (by simp) (.int .i64 (c + xc))).set 2 (by simp) (.int .i64 xc)).set 3 (by simp) (.int .i64 (d + 1))).set 4 (by simp) (.int .i64 (f + 1))).alloc _), HU2, (((((hb.setCell (p := ⟨w2.heap.size, 0, none⟩) (Nat.le_refl _) (.int .i64 ((k : Int) + 1))).setCell (p := ⟨w2.heap.size, 1, none⟩) (Nat.le_refl _) (.int .i64 (c + xc))).setCell (p := ⟨w2.heap.size, 2, none⟩) (Nat.le_refl _) (.int .i64 xc)).setCell (p := ⟨w2.heap.size, 3, none⟩) (Nat.le_refl _) (.int .i64 (d + 1))).setCell (p := ⟨w2.heap.size, 4, none⟩) (Nat.le_refl _) (.int .i64 (f + 1))).alloc (by simp only [World.size_setCell]; omega) _⟩, by simp [intOf]; omega⟩
              · have hst : smStep P ⟨k, c, b, d, f, r⟩ ⟨xp, xc, true⟩ = ⟨(k : Int) + 1, c + xc, xc, (d + 1), f, r⟩ := by unfold smStep mx; simp [hmx, h2, h3]
                have HU2 : Hid (sumL l p = smF l P ((askL l p).drop (k + 1)) ⟨((k + 1 : Nat) : Int), c + xc, xc, (d + 1), f, r⟩) := Lib.hid (by rw [HT.out, hst]; rfl)
                clear hst HT
                go_wp2
                exact ⟨⟨k + 1, c + xc, xc, (d + 1), f, r, by go_num, hlt, by omega, by omega, by omega, by omega, by omega, by omega, by omega, by omega, by omega, by omega, Lib.hid (((((HB.out.set 0 (by simp) (.int .i64 ((k : Int) + 1))).set 1 (by simp) (.int .i64 (c + xc))).set 2 (by simp) (.int .i64 xc)).set 3 (by simp) (.int .i64 (d + 1))).alloc _), HU2, ((((hb.setCell (p := ⟨w2.heap.size, 0, none⟩) (Nat.le_refl _) (.int .i64 ((k : Int) + 1))).setCell (p := ⟨w2.heap.size, 1, none⟩) (Nat.le_refl _) (.int .i64 (c + xc))).setCell (p := ⟨w2.heap.size, 2, none⟩) (Nat.le_refl _) (.int .i64 xc)).setCell (p := ⟨w2.heap.size, 3, none⟩) (Nat.le_refl _) (.int .i64 (d + 1))).alloc (by simp only [World.size_setCell]; omega) _⟩, by simp [intOf]; omega⟩
          · by_cases h2 : 2 * P ≤ xc
            · have hst : smStep P ⟨k, c, b, d, f, r⟩ ⟨xp, xc, true⟩ = ⟨(k : Int) + 1, c + xc, b, (d + 1), f, (r + 1)⟩ := by unfold smStep mx; simp [hmx, h2]
              have HU2 : Hid (sumL l p = smF l P ((askL l p).drop (k + 1)) ⟨((k + 1 : Nat) : Int), c + xc, b, (d + 1), f, (r + 1)⟩) := Lib.hid (by rw [HT.out, hst]; rfl)
              clear hst HT
              go_wp2
              exact ⟨⟨k + 1, c + xc, b, (d + 1), f, (r + 1), by go_num, hlt, by omega, by omega, by omega, by omega, by omega, by omega, by omega, by omega, by omega, by omega, Lib.hid ((((((HB.out.set 0 (by simp) (.int .i64 ((k : Int) + 1))).set 1 (by simp) (.int .i64 (c + xc))).set 2 (by simp) (.int .i64 b)).set 3 (by simp) (.int .i64 (d + 1))).set 5 (by simp) (.int .i64 (r + 1))).alloc _), HU2, (((((hb.setCell (p := ⟨w2.heap.size, 0, none⟩) (Nat.le_refl _) (.int .i64 ((k : Int) + 1))).setCell (p := ⟨w2.heap.size, 1, none⟩) (Nat.le_refl _) (.int .i64 (c + xc))).setCell (p := ⟨w2.heap.size, 2, none⟩) (Nat.le_refl _) (.int .i64 b)).setCell (p := ⟨w2.heap.size, 3, none⟩) (Nat.le_refl _) (.int .i64 (d + 1))).setCell (p := ⟨w2.heap.size, 5, none⟩) (Nat.le_refl _) (.int .i64 (r + 1))).alloc (by simp only [World.size_setCell]; omega) _⟩, by simp [intOf]; omega⟩
            · by_cases h3 : P ≤ xc
              · have hst : smStep P ⟨k, c, b, d, f, r⟩ ⟨xp, xc, true⟩ = ⟨(k : Int) + 1, c + xc, b, (d + 1), (f + 1), r⟩ := by unfold smStep mx; simp [hmx, h2, h3]
                have HU2 : Hid (sumL l p = smF l P ((askL l p).drop (k + 1)) ⟨((k + 1 : Nat) : Int), c + xc, b, (d + 1), (f + 1), r⟩) := Lib.hid (by rw [HT.out, hst]; rfl)
                clear hst HT
                go_wp2
                exact ⟨⟨k + 1, c + xc, b, (d + 1), (f + 1), r, by go_num, hlt, by omega, by omega, by omega, by omega, by omega, by omega, by omega, by omega, by omega, by omega, Lib.hid ((((((HB.out.set 0 (by simp) (.int .i64 ((k : Int) + 1))).set 1 (by simp) (.int .i64 (c + xc))).set 2 (by simp) (.int .i64 b)).set 3 (by simp) (.int .i64 (d + 1))).set 4 (by simp) (.int .i64 (f + 1))).alloc _), HU2, (((((hb.setCell (p := ⟨w2.heap.size, 0, none⟩) (Nat.le_refl _) (.int .i64 ((k : Int) + 1))).setCell (p := ⟨w2.heap.size, 1, none⟩) (Nat.le_refl _) (.int .i64 (c + xc))).setCell (p := ⟨w2.heap.size, 2, none⟩) (Nat.le_refl _) (.int .i64 b)).setCell (p := ⟨w2.heap.size, 3, none⟩) (Nat.le_refl _) (.int .i64 (d + 1))).setCell (p := ⟨w2.heap.size, 4, none⟩) (Nat.le_refl _) (.int .i64 (f + 1))).alloc (by simp only [World.size_setCell]; omega) _⟩, by simp [intOf]; omega⟩
              · have hst : smStep P ⟨k, c, b, d, f, r⟩ ⟨xp, xc, true⟩ = ⟨(k : Int) + 1, c + xc, b, (d + 1), f, r⟩ := by unfold smStep mx; simp [hmx, h2, h3]
                have HU2 : Hid (sumL l p = smF l P ((askL l p).drop (k + 1)) ⟨((k + 1 : Nat) : Int), c + xc, b, (d + 1), f, r⟩) := Lib.hid (by rw [HT.out, hst]; rfl)
                clear hst HT
                go_wp2
                exact ⟨⟨k + 1, c + xc, b, (d + 1), f, r, by go_num, hlt, by omega, by omega, by omega, by omega, by omega, by omega, by omega, by omega, by omega, by omega, Lib.hid (((((HB.out.set 0 (by simp) (.int .i64 ((k : Int) + 1))).set 1 (by simp) (.int .i64 (c + xc))).set 2 (by simp) (.int .i64 b)).set 3 (by simp) (.int .i64 (d + 1))).alloc _), HU2, ((((hb.setCell (p := ⟨w2.heap.size, 0, none⟩) (Nat.le_refl _) (.int .i64 ((k : Int) + 1))).setCell (p := ⟨w2.heap.size, 1, none⟩) (Nat.le_refl _) (.int .i64 (c + xc))).setCell (p := ⟨w2.heap.size, 2, none⟩) (Nat.le_refl _) (.int .i64 b)).setCell (p := ⟨w2.heap.size, 3, none⟩) (Nat.le_refl _) (.int .i64 (d + 1))).alloc (by simp only [World.size_setCell]; omega) _⟩, by simp [intOf]; omega⟩
      · obtain rfl : k = m := by omega
        have HE : Hid (sumL l p = ⟨(k : Int), c, b, d, f, r⟩) := Lib.hid (by rw [HS.out, drop_end _ k k Hm.out (Nat.le_refl _)]; rfl)
        have hB := HB2.out.below hb
        obtain ⟨eR, fR⟩ := hB.cells
        have hRlt := hB.1
        obtain ⟨eO, fO⟩ := HB.out.cells
        clear HS hB
        go_wp2
        refine bodyPost_ret (v := .tuple #[.agg #[.int .i64 k, .int .i64 c, .int .i64 b, .int .i64 d, .int .i64 f, .int .i64 r], .int .i64 0]) (by simp [results, Tryz.results42, go_sem, eR]) rfl ?_
        exact ⟨by rw [HE.out, HZ.out], ((((((bthen hb12 hb).setCell (p := ⟨w.heap.size, 0, none⟩) (Nat.le_refl _) _).setCell (p := ⟨w.heap.size, 1, none⟩) (Nat.le_refl _) _).setCell (p := ⟨w.heap.size, 2, none⟩) (Nat.le_refl _) _).setCell (p := ⟨w.heap.size, 3, none⟩) (Nat.le_refl _) _).setCell (p := ⟨w.heap.size, 4, none⟩) (Nat.le_refl _) _).setCell (p := ⟨w.heap.size, 5, none⟩) (Nat.le_refl _) _⟩
  · have HE : Hid (sumL l p = sumZ) := Lib.hid (by unfold sumL; rw [if_neg h0])
    have hne : (askCode l p != 0) = true := by simpa using h0
    have hB := HB1.out
    obtain ⟨eR, fR⟩ := hB.cells
    have hRlt := hB.1
    clear ho hB
    generalize askCode l p = code at *
    go_wp2
    refine bodyPost_ret (v := .tuple #[.agg #[.int .i64 0, .int .i64 0, .int .i64 0, .int .i64 0, .int .i64 0, .int .i64 0], .int .i64 code]) (by simp [results, Tryz.results42, go_sem, eR]) rfl ?_
    exact ⟨by rw [HE.out]; rfl, (((((hb1'.setCell (p := ⟨w.heap.size, 0, none⟩) (Nat.le_refl _) _).setCell (p := ⟨w.heap.size, 1, none⟩) (Nat.le_refl _) _).setCell (p := ⟨w.heap.size, 2, none⟩) (Nat.le_refl _) _).setCell (p := ⟨w.heap.size, 3, none⟩) (Nat.le_refl _) _).setCell (p := ⟨w.heap.size, 4, none⟩) (Nat.le_refl _) _).setCell (p := ⟨w.heap.size, 5, none⟩) (Nat.le_refl _) _⟩
end Go.Proofs.YtclffohjpbmnbaaGreatDoor

/- Gain3: by how much the catches of a pattern have grown, by both packages; the law FnExactGainOf. -/
namespace Go.Proofs.YtclffohjpbmnbaaGreatDoor
open Go.ChangeShapes Go.WideShapes Go.ChangeAt Go.RowKit

theorem catL_in {l : List Att} {own : List Int} (ho : ∀ k, k < own.length → ∃ j : Nat, nth own k = (j : Int) ∧ j < l.length) (hx : ∀ i, i < l.length → 0 ≤ (nth l i).catches ∧ (nth l i).catches ≤ 100000) : ∀ x ∈ catL l own, 0 ≤ x ∧ x ≤ 100000 := by
  intro x hxm
  obtain ⟨k, hk, rfl⟩ := List.getElem_of_mem hxm
  rw [catL_len] at hk
  obtain ⟨j, hj, hjl⟩ := ho k hk
  have := hx j hjl
  rw [← nth_eq _ _ (by rw [catL_len]; exact hk)]
  unfold catL; rw [nth_map' _ own k hk, hj, Int.toNat_natCast]; exact this
theorem addr_add_none (b o j : Nat) : (⟨b, o, none⟩ : Addr).add j = ⟨b, o + j, none⟩ := by
  unfold Addr.add
  split
  · rename_i h; subst h; rfl
  · rfl
theorem nth_drop {α : Type} [Inhabited α] (l : List α) (k i : Nat) : nth (l.drop k) i = nth l (k + i) := by
  unfold nth; simp [List.getD, List.getElem?_drop]
theorem nth_take {α : Type} [Inhabited α] (l : List α) (k i : Nat) (h : i < k) : nth (l.take k) i = nth l i := by
  unfold nth; simp [List.getD, h]
theorem ints_from {w : World} {a : Option Addr} {l : List Int} {n cap k : Nat} (h : IntsC w a l) (hn : n = l.length) (hk : k ≤ n) (hc : n ≤ cap) (hm : cap ≤ 9223372036854775807) : IntsAt w (.slice (a.map fun x => x.add k) (n - k) (cap - k)) (l.drop k) := by
  refine ⟨_, _, _, rfl, by rw [List.length_drop]; omega, by omega, by omega, fun i hi => ?_⟩
  rw [List.length_drop] at hi
  obtain ⟨b, o, rfl, hb, hx⟩ := h (k + i) (by omega)
  exact ⟨b, o + k, by rw [Option.map_some, addr_add_none], hb, by rw [nth_drop, ← hx, Nat.add_assoc]⟩
def gainC (l : List Att) (p : List Int) : List Int := catL l (askL l p)
def gainA (l : List Att) (p : List Int) : Int := if askCode l p = 0 then (if (askL l p).length < 2 then 0 else meanL ((gainC l p).drop ((askL l p).length - (askL l p).length / 2)) - meanL ((gainC l p).take ((askL l p).length / 2))) else 0
def gainB (l : List Att) (p : List Int) : Int := if askCode l p = 0 then (if (askL l p).length < 2 then 6 else 0) else askCode l p

end Go.Proofs.YtclffohjpbmnbaaGreatDoor
