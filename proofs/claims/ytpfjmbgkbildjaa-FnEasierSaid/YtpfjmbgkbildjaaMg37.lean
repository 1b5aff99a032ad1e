import Derived.Test.YtpfjmbgkbildjaaMg18
import Derived.Test.YtpfjmbgkbildjaaMg8
import Derived.BigRegion
import Derived.RegionTactic
/- Swap: exchanges of two throws, by both packages. -/
namespace Go.Proofs.Ytpfjmbgkbildjaa
open Go.ChangeShapes Go.WideShapes Go.ChangeAt Go.RowKit

def swapL (l : List Int) (i k : Nat) : List Int := (l.set i (nth l k + (k : Int) - (i : Int))).set k (nth l i + (i : Int) - (k : Int))
def swapR (l : List Int) (i k : Nat) : List Int := if throwsB (swapL l i k) then swapL l i k else []
def swapC (l : List Int) (i k : Nat) : Int := if throwsB (swapL l i k) then 0 else 2
theorem swapL_len (l : List Int) (i k : Nat) : (swapL l i k).length = l.length := by simp [swapL]
theorem own_mono3 {w : World} {base base' : Nat} {v : Value} {l : List Int} (h : OwnInts w base' v l) (hb : base ≤ base') : OwnInts w base v l := by
  obtain ⟨h1, h2⟩ := h
  refine ⟨h1, ?_⟩
  rcases h2 with h2 | ⟨g, cap, cur, hv, hg, r⟩
  · exact .inl h2
  · exact .inr ⟨g, cap, cur, hv, Nat.le_trans hb hg, r⟩
theorem ownI_form {w : World} {base : Nat} {a : Option Addr} {n cap : Nat} {l : List Int} (h : OwnInts w base (.slice a n cap) l) (hl : 0 < l.length) : ∃ g, a = some ⟨g, 0, none⟩ ∧ n = l.length ∧ base ≤ g ∧ g < w.heap.size := by
  obtain ⟨g, c, he, h1, h2⟩ := World.ownsRow.form h hl
  injection he with e1 e2 e3
  exact ⟨g, e1, e2, h1, h2⟩
theorem ownI_set {w : World} {base g n cap : Nat} {l : List Int} (h : OwnInts w base (.slice (some ⟨g, 0, none⟩) n cap) l) (i : Nat) (x : Int) : OwnInts (w.setCell ⟨g, i, none⟩ (.int .i64 x)) base (.slice (some ⟨g, 0, none⟩) n cap) (l.set i x) := by
  unfold OwnInts at *
  have hn : n = l.length := by
    rcases h.2 with ⟨he, h0⟩ | ⟨g', cap', cur, he, _⟩
    · cases he
    · injection he
  subst hn
  rw [List.length_set, List.map_set]
  exact (h.stored i _).1
theorem ownI_cell {w : World} {base g n cap : Nat} {l : List Int} (h : OwnInts w base (.slice (some ⟨g, 0, none⟩) n cap) l) (i : Nat) (hi : i < l.length) : w.cell? ⟨g, i, none⟩ = some (.int .i64 (nth l i)) ∧ w.frozen? ⟨g, i, none⟩ = false := by
  have hn : n = l.length := by
    rcases h.2 with ⟨he, h0⟩ | ⟨g', cap', cur, he, _⟩
    · cases he
    · injection he
  subst hn
  have h1 := World.ownsRow.cellAt h i (by omega)
  rw [List.getElem?_map, nth_get? l i hi] at h1
  exact ⟨h1, World.ownsRow.frozenAt h i⟩
theorem isIndex_c (v : Value) (l : List Int) (i : Nat) (w : World) (hv : IntsAt w v l) (hi : i < l.length) (h12 : l.length ≤ 12) : Calls Try.prog 87 #[v, .int .i64 i] w (Gives (.bool true) w) := by
  have hp := period_c v l w hv
  have hq := between_c i 0 ((l.length : Int) - 1)
  rw [show inB (i : Int) 0 ((l.length : Int) - 1) = true by simp [inB]; omega] at hq
  generalize l.length = n at *
  have hw1 : IntKind.i64.wrap ((n : Int) - 1) = (n : Int) - 1 := IntWalk.i64_in _ (by omega)
  have HQ := Lib.hid hq
  clear hv hq
  go_enter Try.func87, Try.ntmps87
  go_wp2_with fail
  refine hp.mono ?_
  rintro e w1 ⟨rfl, hb1⟩
  clear hp
  go_wp2_with fail
  refine (HQ.out _).mono ?_
  rintro e w2 ⟨rfl, hb2⟩
  go_wp2
  go_ret
  exact Gives.bool rfl (bthen hb1 hb2)
set_option maxHeartbeats 2000000 in
theorem iSwap_c (v : Value) (l : List Int) (i k : Nat) (w : World) (hv : IntsAt w v l) (hok : okPat l = true) (hik : i < k) (hkl : k < l.length) :
    Calls Try.prog 65 #[v, .int .i64 i, .int .i64 k] w (GivesIntsC (swapR l i k) (swapC l i k) w) := by
  have HV := Lib.hid hv
  obtain ⟨hx, h1, h12⟩ := throwsB_nth (okPat_throws hok)
  have hq := validPattern_c v l w hv
  rw [hok] at hq
  have HI1 := Lib.hid (fun W x => isIndex_c v l i W x (by omega) h12)
  have HI2 := Lib.hid (fun W x => isIndex_c v l k W x hkl h12)
  have HC := Lib.hid (fun W x => copyNumbers_c v l W x (by omega))
  obtain ⟨hxi0, hxi1⟩ := hx i (by omega)
  obtain ⟨hxk0, hxk1⟩ := hx k hkl
  obtain ⟨a, n, cap, rfl, hn, -, -, hc⟩ := hv
  have Hc := Lib.hid hc; clear hc
  have hkn : k < n := by omega
  have hin : i < n := by omega
  have hn12 : n ≤ 12 := by omega
  have Hn := Lib.hid hn
  have HS := Lib.hid (show swapL l i k = (l.set i (nth l k + (k : Int) - (i : Int))).set k (nth l i + (i : Int) - (k : Int)) from rfl)
  have HT := Lib.hid (fun W v x => areThrows_c v (swapL l i k) W x)
  have Hlk := Lib.hid hkl
  clear hn hx h1 h12 hkl hok
  cases hE : throwsB (swapL l i k)
  all_goals
    rw [hE] at HT
    have HR : Hid (swapR l i k = if throwsB (swapL l i k) then swapL l i k else []) := Lib.hid rfl
    have HZ : Hid (swapC l i k = if throwsB (swapL l i k) then 0 else 2) := Lib.hid rfl
    rw [hE] at HR HZ
    clear hE
    generalize hX : nth l i = X at *
    generalize hY : nth l k = Y at *
    have HX := Lib.hid hX
    have HY := Lib.hid hY
    clear hX hY
    have hw1 : IntKind.i64.wrap (Y + (k : Int)) = Y + (k : Int) := IntWalk.i64_in _ (by omega)
    have hw2 : IntKind.i64.wrap (Y + (k : Int) - (i : Int)) = Y + (k : Int) - (i : Int) := IntWalk.i64_in _ (by omega)
    have hw3 : IntKind.i64.wrap (X + (i : Int)) = X + (i : Int) := IntWalk.i64_in _ (by omega)
    have hw4 : IntKind.i64.wrap (X + (i : Int) - (k : Int)) = X + (i : Int) - (k : Int) := IntWalk.i64_in _ (by omega)
    go_enter Try.func65, Try.ntmps65
    go_wp2_with fail
    refine hq.mono ?_
    rintro e w1 ⟨rfl, hb1⟩
    clear hq
    go_wp2_with fail
    refine (HI1.out _ (HV.out.below hb1)).mono ?_
    rintro e w2 ⟨rfl, hb2'⟩
    have hb2 := bthen hb1 hb2'
    go_wp2_with fail
    refine (HI2.out _ (HV.out.below hb2)).mono ?_
    rintro e w3 ⟨rfl, hb3'⟩
    have hb3 := bthen hb2 hb3'
    go_wp2_with fail
    refine (HC.out _ (HV.out.below hb3)).mono ?_
    rintro e w4 ⟨a4, n4, c4, rfl, ho4, hb4'⟩
    have hb4 := bthen hb3 hb4'
    obtain ⟨g, rfl, rfl, hg1, hg2⟩ := ownI_form ho4 (by have := Hlk.out; omega)
    obtain ⟨b1, o1, rfl, hbs1, d1⟩ := (Hc.out.below hb3) i (by rw [← Hn.out]; exact hin)
    obtain ⟨b2, o2, hab, hbs2, d2⟩ := (Hc.out.below hb3) k (by rw [← Hn.out]; exact hkn)
    cases hab
    rw [HX.out] at d1
    rw [HY.out] at d2
    replace d1 := (hb4'.cell (p := ⟨b1, o1 + i, none⟩) hbs1).trans d1
    replace d2 := (hb4'.cell (p := ⟨b1, o1 + k, none⟩) hbs1).trans d2
    obtain ⟨e1, f1⟩ := ownI_cell ho4 i (by have := Hlk.out; omega)
    obtain ⟨e2, f2⟩ := ownI_cell ho4 k Hlk.out
    generalize nth l i = X' at e1
    generalize nth l k = Y' at e2
    have hne : b1 ≠ g := by omega
    have hne2 : i ≠ k := by omega
    have HO := Lib.hid ho4
    have hlk := Hlk.out
    have hli : i < l.length := by omega
    clear ho4
    go_wp2
    go_region
    generalize hG : ((w4.setCell ⟨g, i, none⟩ (.int .i64 (Y + (k : Int) - (i : Int)))).setCell ⟨g, k, none⟩ (.int .i64 (X + (i : Int) - (k : Int)))).drew = wz at *
    have HZo : Hid (OwnInts wz w3.heap.size (.slice (some ⟨g, 0, none⟩) l.length c4) (swapL l i k)) := Lib.hid (by rw [HS.out, ← hG]; exact ownI_set (ownI_set HO.out i _) k _)
    have hgw : w.heap.size ≤ g := Nat.le_trans hb3.size hg1
    have hbz : Below w.heap.size w wz := by rw [← hG]; exact ((hb4.setCell (p := ⟨g, i, none⟩) hgw _).setCell (p := ⟨g, k, none⟩) hgw _).drew
    clear hG e1 f1 e2 f2 d1 d2
    go_wp2_with fail
    refine (HT.out _ _ (OwnInts.at HZo.out)).mono ?_
    rintro e w5 ⟨rfl, hb5⟩
    go_wp2
    go_ret2
  · exact GivesIntsC.none (by rw [HR.out]; rfl) (by rw [HZ.out]; rfl) (bthen hbz hb5)
  · exact GivesIntsC.mk (by rw [HZ.out]; rfl) (by rw [HR.out]; exact own_mono3 (own_below HZo.out hb5) hb3.size) (bthen hbz hb5)
theorem l03Checked_t (a : Option Addr) (n c : Nat) (l : List Int) (w : World) (hv : IntsAt w (.slice a n c) l) (ht : throwsB l = true) : Calls Try.prog 67 #[.slice a n c] w (Gives (.tuple #[.slice a n c, .int .i64 0]) w) := by
  have HQ := Lib.hid (l02List_c (.slice a n c) l w hv)
  rw [ht] at HQ
  clear hv ht
  go_enter Try.func67, Try.ntmps67
  go_wp2_with fail
  refine HQ.out.mono ?_
  rintro e w1 ⟨rfl, hb1⟩
  go_wp2
  go_ret2
  exact ⟨rfl, hb1⟩
theorem l03Checked_f (a : Option Addr) (n c : Nat) (l : List Int) (w : World) (hv : IntsAt w (.slice a n c) l) (ht : throwsB l = false) : Calls Try.prog 67 #[.slice a n c] w (Gives (.tuple #[.slice none 0 0, .int .i64 2]) w) := by
  have HQ := Lib.hid (l02List_c (.slice a n c) l w hv)
  rw [ht] at HQ
  clear hv ht
  go_enter Try.func67, Try.ntmps67
  go_wp2_with fail
  refine HQ.out.mono ?_
  rintro e w1 ⟨rfl, hb1⟩
  go_wp2
  go_ret2
  exact ⟨rfl, hb1⟩
set_option maxHeartbeats 2000000 in
theorem sSwap_c (v : Value) (l : List Int) (i k : Nat) (w : World) (hv : IntsAt w v l) (hok : okPat l = true) (hik : i < k) (hkl : k < l.length) :
    Calls Try.prog 36 #[v, .int .i64 i, .int .i64 k] w (GivesIntsC (swapR l i k) (swapC l i k) w) := by
  have HV := Lib.hid hv
  obtain ⟨hx, h1, h12⟩ := throwsB_nth (okPat_throws hok)
  have hq := l02Ok_c v l w hv
  rw [hok] at hq
  have HI1 : Hid (∀ W, Calls Try.prog 66 #[.int .i64 i, .int .i64 0, .int .i64 ((l.length : Int) - 1)] W (Gives (.bool true) W)) := Lib.hid (fun W => by
    have h := l00In_c i 0 ((l.length : Int) - 1) W
    rwa [show inB (i : Int) 0 ((l.length : Int) - 1) = true by simp [inB]; omega] at h)
  have HI2 : Hid (∀ W, Calls Try.prog 66 #[.int .i64 k, .int .i64 0, .int .i64 ((l.length : Int) - 1)] W (Gives (.bool true) W)) := Lib.hid (fun W => by
    have h := l00In_c k 0 ((l.length : Int) - 1) W
    rwa [show inB (k : Int) 0 ((l.length : Int) - 1) = true by simp [inB]; omega] at h)
  have HC := Lib.hid (fun W x => l00Own_c v l W x (by omega))
  obtain ⟨hxi0, hxi1⟩ := hx i (by omega)
  obtain ⟨hxk0, hxk1⟩ := hx k hkl
  obtain ⟨a, n, cap, rfl, hn, -, -, hc⟩ := hv
  have Hc := Lib.hid hc; clear hc
  have hkn : k < n := by omega
  have hin : i < n := by omega
  have hn12 : n ≤ 12 := by omega
  have Hn := Lib.hid hn
  rw [← hn] at HI1 HI2
  have hw0 : IntKind.i64.wrap ((n : Int) - 1) = (n : Int) - 1 := IntWalk.i64_in _ (by omega)
  have HS := Lib.hid (show swapL l i k = (l.set i (nth l k + (k : Int) - (i : Int))).set k (nth l i + (i : Int) - (k : Int)) from rfl)
  have HT1 := Lib.hid (fun a n c W x h => l03Checked_t a n c (swapL l i k) W x h)
  have HT0 := Lib.hid (fun a n c W x h => l03Checked_f a n c (swapL l i k) W x h)
  have Hlk := Lib.hid hkl
  clear hn hx h1 h12 hkl hok
  cases hE : throwsB (swapL l i k)
  all_goals
    have HEE := Lib.hid hE
    have HR : Hid (swapR l i k = if throwsB (swapL l i k) then swapL l i k else []) := Lib.hid rfl
    have HZ : Hid (swapC l i k = if throwsB (swapL l i k) then 0 else 2) := Lib.hid rfl
    rw [hE] at HR HZ
    clear hE
    generalize hX : nth l i = X at *
    generalize hY : nth l k = Y at *
    have HX := Lib.hid hX
    have HY := Lib.hid hY
    clear hX hY
    have hw1 : IntKind.i64.wrap (Y + (k : Int)) = Y + (k : Int) := IntWalk.i64_in _ (by omega)
    have hw2 : IntKind.i64.wrap (Y + (k : Int) - (i : Int)) = Y + (k : Int) - (i : Int) := IntWalk.i64_in _ (by omega)
    have hw3 : IntKind.i64.wrap (X + (i : Int)) = X + (i : Int) := IntWalk.i64_in _ (by omega)
    have hw4 : IntKind.i64.wrap (X + (i : Int) - (k : Int)) = X + (i : Int) - (k : Int) := IntWalk.i64_in _ (by omega)
    go_enter Try.func36, Try.ntmps36
    go_wp2_with fail
    refine hq.mono ?_
    rintro e w1 ⟨rfl, hb1⟩
    clear hq
    go_wp2_with fail
    refine (HI1.out _).mono ?_
    rintro e w2 ⟨rfl, hb2'⟩
    have hb2 := bthen hb1 hb2'
    go_wp2_with fail
    refine (HI2.out _).mono ?_
    rintro e w3 ⟨rfl, hb3'⟩
    have hb3 := bthen hb2 hb3'
    go_wp2_with fail
    refine (HC.out _ (HV.out.below hb3)).mono ?_
    rintro e w4 ⟨a4, n4, c4, rfl, ho4, hb4'⟩
    have hb4 := bthen hb3 hb4'
    obtain ⟨g, rfl, rfl, hg1, hg2⟩ := ownI_form ho4 (by have := Hlk.out; omega)
    obtain ⟨b1, o1, rfl, hbs1, d1⟩ := (Hc.out.below hb3) i (by rw [← Hn.out]; exact hin)
    obtain ⟨b2, o2, hab, hbs2, d2⟩ := (Hc.out.below hb3) k (by rw [← Hn.out]; exact hkn)
    cases hab
    rw [HX.out] at d1
    rw [HY.out] at d2
    replace d1 := (hb4'.cell (p := ⟨b1, o1 + i, none⟩) hbs1).trans d1
    replace d2 := (hb4'.cell (p := ⟨b1, o1 + k, none⟩) hbs1).trans d2
    obtain ⟨e1, f1⟩ := ownI_cell ho4 i (by have := Hlk.out; omega)
    obtain ⟨e2, f2⟩ := ownI_cell ho4 k Hlk.out
    generalize nth l i = X' at e1
    generalize nth l k = Y' at e2
    have hne : b1 ≠ g := by omega
    have hne2 : i ≠ k := by omega
    have HO := Lib.hid ho4
    have hlk := Hlk.out
    have hli : i < l.length := by omega
    clear ho4
    go_wp2_with fail
    generalize hG : ((w4.setCell ⟨g, i, none⟩ (.int .i64 (Y + (k : Int) - (i : Int)))).setCell ⟨g, k, none⟩ (.int .i64 (X + (i : Int) - (k : Int)))) = wz at *
    have HZo : Hid (OwnInts wz w3.heap.size (.slice (some ⟨g, 0, none⟩) l.length c4) (swapL l i k)) := Lib.hid (by rw [HS.out, ← hG]; exact ownI_set (ownI_set HO.out i _) k _)
    have hgw : w.heap.size ≤ g := Nat.le_trans hb3.size hg1
    have hbz : Below w.heap.size w wz := by rw [← hG]; exact ((hb4.setCell (p := ⟨g, i, none⟩) hgw _).setCell (p := ⟨g, k, none⟩) hgw _)
    clear hG e1 f1 e2 f2 d1 d2
  · refine (HT0.out _ _ _ _ (OwnInts.at HZo.out) HEE.out).mono ?_
    rintro e w5 ⟨rfl, hb5⟩
    go_wp2
    go_ret2
    exact GivesIntsC.none (by rw [HR.out]; rfl) (by rw [HZ.out]; rfl) (bthen hbz hb5)
  · refine (HT1.out _ _ _ _ (OwnInts.at HZo.out) HEE.out).mono ?_
    rintro e w5 ⟨rfl, hb5⟩
    go_wp2
    go_ret2
    exact GivesIntsC.mk (by rw [HZ.out]; rfl) (by rw [HR.out]; exact own_mono3 (own_below HZo.out hb5) hb3.size) (bthen hbz hb5)
end Go.Proofs.Ytpfjmbgkbildjaa
