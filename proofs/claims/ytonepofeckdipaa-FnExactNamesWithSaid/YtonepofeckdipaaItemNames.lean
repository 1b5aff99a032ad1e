/- ItemNames: NamesWith, by both packages. -/
import Derived.Test.YtonepofeckdipaaItemsFn
import Derived.Test.YtonepofeckdipaaItemsS
import Derived.Test.YtonepofeckdipaaItemsI
import Derived.Test.YtonepofeckdipaaProps
import Derived.Test.YtonepofeckdipaaMarkS
namespace Go.Proofs.Ytonepofeckdipaa
open Go.ChangeShapes Go.WideShapes Go.ChangeAt Go.RowKit

def GivesStrsC (l : List ByteArray) (code : Int) (w : World) (e : Ending) (w' : World) : Prop := ∃ a n c, e = .returned (.tuple #[.slice a n c, .int .i64 code]) ∧ OwnStrs w' w.heap.size (.slice a n c) l ∧ Below w.heap.size w w'
theorem GivesStrsC.none {l : List ByteArray} {c1 c2 : Int} {w w' : World} (h : l = []) (hc : c1 = c2) (hb : Below w.heap.size w w') : GivesStrsC l c1 w (.returned (.tuple #[.slice Option.none 0 0, .int .i64 c2])) w' :=
  ⟨Option.none, 0, 0, by rw [hc], by rw [h]; exact World.ownsRow_nil _ _ _ _, hb⟩
theorem GivesStrsC.mk {l : List ByteArray} {c1 c2 : Int} {a : Option Addr} {n c : Nat} {w w' : World} (hc : c1 = c2) (ho : OwnStrs w' w.heap.size (.slice a n c) l) (hb : Below w.heap.size w w') : GivesStrsC l c1 w (.returned (.tuple #[.slice a n c, .int .i64 c2])) w' :=
  ⟨a, n, c, by rw [hc], ho, hb⟩
def namesTo (l : List Item) (P : Int) (k : Nat) : List ByteArray := ((l.take k).filter fun x => propsL x.pattern == P).map Item.name
def namesWithL (l : List Item) (P : Int) : List ByteArray := if okItems l && inB P 0 15 then namesTo l P l.length else []
def namesWithCode (l : List Item) (P : Int) : Int := if okItems l then (if inB P 0 15 then 0 else 2) else 1
theorem namesTo_yes {l : List Item} {P : Int} {k : Nat} (hk : k < l.length) (h : (propsL (nth l k).pattern == P) = true) : namesTo l P (k + 1) = namesTo l P k ++ [(nth l k).name] := by
  unfold namesTo; rw [take_nth l k hk, List.filter_append, List.map_append]; simp [h]
theorem namesTo_no {l : List Item} {P : Int} {k : Nat} (hk : k < l.length) (h : (propsL (nth l k).pattern == P) = false) : namesTo l P (k + 1) = namesTo l P k := by
  unfold namesTo; rw [take_nth l k hk, List.filter_append, List.map_append]; simp [h]
theorem namesTo_len (l : List Item) (P : Int) (k : Nat) : (namesTo l P k).length ≤ k := by
  unfold namesTo
  rw [List.length_map]
  exact Nat.le_trans (List.length_filter_le _ _) (by rw [List.length_take]; omega)
theorem namesWithL_len (l : List Item) (P : Int) : (namesWithL l P).length ≤ 1099511627776 := by
  unfold namesWithL
  split
  · rename_i h
    simp only [Bool.and_eq_true] at h
    have := namesTo_len l P l.length
    have := okItems_len h.1
    omega
  · simp
set_option maxHeartbeats 2000000 in
theorem sNamesWith_c (v : Value) (l : List Item) (P : Int) (w : World) (hv : ItemsAt w v l) : Calls Try.prog 22 #[v, .int .i64 P] w (GivesStrsC (namesWithL l P) (namesWithCode l P) w) := by
  have HQ := l22Ok_c v l w hv
  have HF := Lib.hid (fun W => l00In_c P 0 15 W)
  obtain ⟨a, n, cap, rfl, hn, hl, hm, hc⟩ := hv
  have Hc := Lib.hid hc; clear hc
  cases hE : okItems l
  · rw [hE] at HQ
    have HE := Lib.hid hE
    clear hE hn
    go_enter Try.func22, Try.ntmps22
    go_wp2_with fail
    refine HQ.mono ?_
    rintro e w1 ⟨rfl, hb1⟩
    clear HQ
    go_wp2
    go_ret2
    exact GivesStrsC.none (by unfold namesWithL; rw [HE.out]; rfl) (by unfold namesWithCode; rw [HE.out]; rfl) hb1
  · rw [hE] at HQ
    have HE := Lib.hid hE
    have hn60 : n ≤ 60 := by rw [hn]; exact okItems_len hE
    have Hn := Lib.hid hn
    clear hE hn
    cases hI : inB P 0 15
    · rw [hI] at HF
      have HI := Lib.hid hI
      clear hI
      go_enter Try.func22, Try.ntmps22
      go_wp2_with fail
      refine HQ.mono ?_
      rintro e w1 ⟨rfl, hb1⟩
      clear HQ
      go_wp2_with fail
      refine (HF.out w1).mono ?_
      rintro e w2 ⟨rfl, hb2⟩
      go_wp2
      go_ret2
      exact GivesStrsC.none (by unfold namesWithL; rw [HE.out, HI.out]; rfl) (by unfold namesWithCode; rw [HE.out, HI.out]; rfl) (bthen hb1 hb2)
    · rw [hI] at HF
      have HI := Lib.hid hI
      clear hI
      go_enter Try.func22, Try.ntmps22
      go_wp2_with fail
      refine HQ.mono ?_
      rintro e w1 ⟨rfl, hb1⟩
      clear HQ
      go_wp2_with fail
      refine (HF.out w1).mono ?_
      rintro e w2 ⟨rfl, hb2⟩
      have hb0 := bthen hb1 hb2
      clear hb1 hb2 HF
      go_wp2
      go_loopw [6, 7] (fun s i wr => ∃ (k : Nat) (a' : Option Addr) (n' c' : Nat), i = .int .i64 k ∧ k ≤ n ∧ s = .slice a' n' c' ∧ Hid (OwnStrs wr w2.heap.size (.slice a' n' c') (namesTo l P k)) ∧ Below w2.heap.size w2 wr) (fun _ i _ => n - (intOf i).toNat)
      case atStart => exact ⟨0, _, _, _, rfl, Nat.zero_le _, rfl, Lib.hid (own_strs_empty w2), by go_grown⟩
      case round =>
        obtain ⟨k, a', n', c', rfl, hk, rfl, HO, hb⟩ := hrel
        by_cases hlt : k < n
        · have Hkl : Hid (k < l.length) := Lib.hid (by rw [← Hn.out]; exact hlt)
          have Hcb := Lib.hid (Hc.out.below (bthen hb0 hb))
          obtain ⟨b, o, pa, pn, pc, rfl, hbs, hsz, hp, c0, c1⟩ := item_cells Hcb.out k Hkl.out
          have HP := Lib.hid hp; clear hp
          have ht := okPat_throws (okItemAt_pat (okItems_at HE.out Hkl.out))
          have HQ := Lib.hid (fun W x => l02Props_c (.slice pa pn pc) (nth l k).pattern W x ht)
          have HT := Lib.hid (fun h => namesTo_yes (P := P) Hkl.out h)
          have HT' := Lib.hid (fun h => namesTo_no (P := P) Hkl.out h)
          have hlen := namesTo_len l P k
          have HC0 := Lib.hid c0
          clear ht
          generalize propsL (nth l k).pattern = Y at *
          go_wp2_with fail
          refine (HQ.out _ (HP.out.below (by first | exact Below.refl _ _ | go_grown))).mono ?_
          rintro e w3 ⟨rfl, hb3⟩
          have hb4 : Below wr.heap.size wr w3 := bthen (by first | exact Below.refl _ _ | go_grown) hb3
          have c0' := cell_then hbs HC0.out hb4
          skip
          have HO3 := Lib.hid (own_below HO.out hb4)
          have hb5 := bthen hb hb4
          clear hb3 c0 c1 HO
          have hsz5 := hb5.size
          by_cases hY : Y = P
          · have hY' : (Y == P) = true := by simpa using hY
            have HTT := Lib.hid (HT.out hY')
            clear hY
            go_wp2_with (at_builtin; refine wpList_app_strs rfl _ _ rfl w2.heap.size _ _ rfl (HO3.out.alloc _) _ _ _ [(nth l k).name] rfl rfl (strs_new _ _ _) (by simp; omega) (by simp; omega) ?_)
            intro a6 n6 c6 w6 ho6 hg6 _ _
            have hb6 : Below w2.heap.size w2 w6 := (hb5.alloc hb5.size _).grown hg6 (by simp; omega) (fun g hg => (World.ownsRow.lt HO3.out g hg).1)
            have HO6 : Hid (OwnStrs w6 w2.heap.size (.slice a6 n6 c6) (namesTo l P (k + 1))) := Lib.hid (by rw [HTT.out]; exact ho6)
            clear ho6 hg6 HO3
            go_wp2
            exact ⟨⟨k + 1, a6, n6, c6, by go_num, hlt, rfl, HO6, hb6⟩, by simp [intOf]; omega⟩
          · have hY' : (Y == P) = false := by simpa using hY
            have HTT := Lib.hid (HT'.out hY')
            clear hY
            go_wp2
            exact ⟨⟨k + 1, a', n', c', by go_num, hlt, rfl, Lib.hid (by rw [HTT.out]; exact HO3.out), hb5⟩, by simp [intOf]; omega⟩
        · obtain rfl : k = n := by omega
          have HO3 : Hid (OwnStrs wr w.heap.size (.slice a' n' c') (namesWithL l P)) := Lib.hid (by unfold namesWithL; rw [HE.out, HI.out, Bool.and_self, if_pos rfl, ← Hn.out]; exact own_mono HO.out hb0.size)
          clear HO
          go_wp2
          go_ret2
          exact GivesStrsC.mk (by unfold namesWithCode; rw [HE.out, HI.out]; rfl) HO3.out (bthen hb0 hb)
set_option maxHeartbeats 2000000 in
theorem iNamesWith_c (v : Value) (l : List Item) (P : Int) (w : World) (hv : ItemsAt w v l) : Calls Try.prog 23 #[v, .int .i64 P] w (GivesStrsC (namesWithL l P) (namesWithCode l P) w) := by
  have HQ := iValidItems_c v l w hv
  have HF := Lib.hid (fun W => between_c P 0 15 W)
  obtain ⟨a, n, cap, rfl, hn, hl, hm, hc⟩ := hv
  have Hc := Lib.hid hc; clear hc
  cases hE : okItems l
  · rw [hE] at HQ
    have HE := Lib.hid hE
    clear hE hn
    go_enter Try.func23, Try.ntmps23
    go_wp2_with fail
    refine HQ.mono ?_
    rintro e w1 ⟨rfl, hb1⟩
    clear HQ
    go_wp2
    go_ret2
    exact GivesStrsC.none (by unfold namesWithL; rw [HE.out]; rfl) (by unfold namesWithCode; rw [HE.out]; rfl) hb1
  · rw [hE] at HQ
    have HE := Lib.hid hE
    have hn60 : n ≤ 60 := by rw [hn]; exact okItems_len hE
    have Hn := Lib.hid hn
    clear hE hn
    cases hI : inB P 0 15
    · rw [hI] at HF
      have HI := Lib.hid hI
      clear hI
      go_enter Try.func23, Try.ntmps23
      go_wp2_with fail
      refine HQ.mono ?_
      rintro e w1 ⟨rfl, hb1⟩
      clear HQ
      go_wp2_with fail
      refine (HF.out w1).mono ?_
      rintro e w2 ⟨rfl, hb2⟩
      go_wp2
      go_ret2
      exact GivesStrsC.none (by unfold namesWithL; rw [HE.out, HI.out]; rfl) (by unfold namesWithCode; rw [HE.out, HI.out]; rfl) (bthen hb1 hb2)
    · rw [hI] at HF
      have HI := Lib.hid hI
      clear hI
      go_enter Try.func23, Try.ntmps23
      go_wp2_with fail
      refine HQ.mono ?_
      rintro e w1 ⟨rfl, hb1⟩
      clear HQ
      go_wp2_with fail
      refine (HF.out w1).mono ?_
      rintro e w2 ⟨rfl, hb2⟩
      have hb0 := bthen hb1 hb2
      clear hb1 hb2 HF
      go_wp2
      go_loopw [6, 18] (fun s i wr => ∃ (k : Nat) (a' : Option Addr) (n' c' : Nat), i = .int .i64 k ∧ k ≤ n ∧ s = .slice a' n' c' ∧ Hid (OwnStrs wr w2.heap.size (.slice a' n' c') (namesTo l P k)) ∧ Below w2.heap.size w2 wr) (fun _ i _ => n - (intOf i).toNat)
      case atStart => exact ⟨0, _, _, _, rfl, Nat.zero_le _, rfl, Lib.hid (own_strs_empty w2), by go_grown⟩
      case round =>
        obtain ⟨k, a', n', c', rfl, hk, rfl, HO, hb⟩ := hrel
        by_cases hlt : k < n
        · have Hkl : Hid (k < l.length) := Lib.hid (by rw [← Hn.out]; exact hlt)
          have Hcb := Lib.hid (Hc.out.below (bthen hb0 hb))
          obtain ⟨b, o, pa, pn, pc, rfl, hbs, hsz, hp, c0, c1⟩ := item_cells Hcb.out k Hkl.out
          have HP := Lib.hid hp; clear hp
          have ht := okPat_throws (okItemAt_pat (okItems_at HE.out Hkl.out))
          have HQ := Lib.hid (fun W x => propsOf_c (.slice pa pn pc) (nth l k).pattern W x ht)
          have HT := Lib.hid (fun h => namesTo_yes (P := P) Hkl.out h)
          have HT' := Lib.hid (fun h => namesTo_no (P := P) Hkl.out h)
          have hlen := namesTo_len l P k
          have HC0 := Lib.hid c0
          clear ht
          generalize propsL (nth l k).pattern = Y at *
          go_wp2_with fail
          refine (HQ.out _ (HP.out.below (by first | exact Below.refl _ _ | go_grown))).mono ?_
          rintro e w3 ⟨rfl, hb3⟩
          have hb4 : Below wr.heap.size wr w3 := bthen (by first | exact Below.refl _ _ | go_grown) hb3
          have c0' := cell_then hbs HC0.out hb4
          have HBx := Lib.hid ((BoxIs.new wr [.string (nth l k).name, .slice pa pn pc] 51).below hb3)
          obtain ⟨eBx, fBx⟩ := HBx.out.cells
          have HO3 := Lib.hid (own_below HO.out hb4)
          have hb5 := bthen hb hb4
          clear hb3 c0 c1 HO
          have hsz5 := hb5.size
          by_cases hY : Y = P
          · have hY' : (Y == P) = true := by simpa using hY
            have HTT := Lib.hid (HT.out hY')
            clear hY
            go_wp2_with (at_builtin; refine wpList_app_strs rfl _ _ rfl w2.heap.size _ _ rfl (HO3.out.alloc _) _ _ _ [(nth l k).name] rfl rfl (strs_new _ _ _) (by simp; omega) (by simp; omega) ?_)
            intro a6 n6 c6 w6 ho6 hg6 _ _
            have hb6 : Below w2.heap.size w2 w6 := (hb5.alloc hb5.size _).grown hg6 (by simp; omega) (fun g hg => (World.ownsRow.lt HO3.out g hg).1)
            have HO6 : Hid (OwnStrs w6 w2.heap.size (.slice a6 n6 c6) (namesTo l P (k + 1))) := Lib.hid (by rw [HTT.out]; exact ho6)
            clear ho6 hg6 HO3
            go_wp2
            exact ⟨⟨k + 1, a6, n6, c6, by go_num, hlt, rfl, HO6, hb6⟩, by simp [intOf]; omega⟩
          · have hY' : (Y == P) = false := by simpa using hY
            have HTT := Lib.hid (HT'.out hY')
            clear hY
            go_wp2
            exact ⟨⟨k + 1, a', n', c', by go_num, hlt, rfl, Lib.hid (by rw [HTT.out]; exact HO3.out), hb5⟩, by simp [intOf]; omega⟩
        · obtain rfl : k = n := by omega
          have HO3 : Hid (OwnStrs wr w.heap.size (.slice a' n' c') (namesWithL l P)) := Lib.hid (by unfold namesWithL; rw [HE.out, HI.out, Bool.and_self, if_pos rfl, ← Hn.out]; exact own_mono HO.out hb0.size)
          clear HO
          go_wp2
          go_ret2
          exact GivesStrsC.mk (by unfold namesWithCode; rw [HE.out, HI.out]; rfl) HO3.out (bthen hb0 hb)
end Go.Proofs.Ytonepofeckdipaa
