import Derived.Test.YtclffohjpbmnbaaGreatDoorMg11
import Derived.Test.YtclffohjpbmnbaaGreatDoorMg7
/- Ask: canonical patterns of valid patterns; the attempts at a pattern, by both packages. -/
namespace Go.Proofs.YtclffohjpbmnbaaGreatDoor
open Go.ChangeShapes Go.WideShapes Go.ChangeAt Go.RowKit


/-- Which of the first n attempts have a canonical form. -/
def atsN (l : List Att) (c : List Int) (n : Nat) : List Int := ((List.range n).filter fun i => same2 eqI (canL (nth l i).pattern) c).map fun i : Nat => (i : Int)
theorem atsN_yes (l : List Att) (c : List Int) (k : Nat) (h : same2 eqI (canL (nth l k).pattern) c = true) : atsN l c (k + 1) = atsN l c k ++ [(k : Int)] := by
  unfold atsN; rw [List.range_succ, List.filter_append, List.map_append]; simp [h]
theorem atsN_no (l : List Att) (c : List Int) (k : Nat) (h : same2 eqI (canL (nth l k).pattern) c = false) : atsN l c (k + 1) = atsN l c k := by
  unfold atsN; rw [List.range_succ, List.filter_append]; simp [h]
theorem atsN_len (l : List Att) (c : List Int) (n : Nat) : (atsN l c n).length ≤ n := by
  unfold atsN; rw [List.length_map]
  have := List.length_filter_le (fun i => same2 eqI (canL (nth l i).pattern) c) (List.range n)
  rwa [List.length_range] at this
theorem atsN_mem {l : List Att} {c : List Int} {n : Nat} {x : Int} (h : x ∈ atsN l c n) : ∃ i : Nat, x = i ∧ i < n := by
  unfold atsN at h
  rw [List.mem_map] at h
  obtain ⟨i, hi, rfl⟩ := h
  rw [List.mem_filter, List.mem_range] at hi
  exact ⟨i, rfl, hi.1⟩
/-- The attempts at a pattern. -/
def atsL (l : List Att) (p : List Int) : List Int := atsN l (canL p) l.length
theorem atsL_nth {l : List Att} {p : List Int} {k : Nat} (h : k < (atsL l p).length) : ∃ i : Nat, nth (atsL l p) k = (i : Int) ∧ i < l.length := by
  have hm : nth (atsL l p) k ∈ atsL l p := by rw [nth_eq _ _ h]; exact List.getElem_mem h
  exact atsN_mem hm
def askCode (l : List Att) (p : List Int) : Int := if okAtts l && okPat p then (if (atsL l p).length = 0 then 3 else 0) else 1

/-- What a question for the attempts at a pattern hands back. -/
def AskPost (l : List Att) (p : List Int) (w : World) (e : Ending) (w' : World) : Prop :=
  (askCode l p ≠ 0 ∧ e = .returned (.tuple #[.slice none 0 0, .int .i64 (askCode l p)]) ∧ Below w.heap.size w w') ∨
  (okAtts l = true ∧ okPat p = true ∧ 0 < (atsL l p).length ∧ askCode l p = 0 ∧ ∃ a n c, e = .returned (.tuple #[.slice a n c, .int .i64 0]) ∧ OwnInts w' w.heap.size (.slice a n c) (atsL l p) ∧ Below w.heap.size w w')

theorem l24Canonical_c (v : Value) (l : List Int) (w : World) (hv : IntsAt w v l) (ho : okPat l = true) : Calls Tryz.prog 86 #[v] w (GivesInts (canL l) w) := by
  have HQ := Lib.hid (canonicalPattern_c v l w hv ho); clear hv ho
  go_enter Tryz.func86, Tryz.ntmps86
  go_wp2_with fail
  refine HQ.out.mono ?_
  rintro e w1 ⟨a, n, c, rfl, ho, hb1⟩
  have HO := Lib.hid ho; clear ho
  go_wp2
  go_ret
  exact ⟨_, _, _, rfl, HO.out, hb1⟩

end Go.Proofs.YtclffohjpbmnbaaGreatDoor

/- Ask2: the attempts at a pattern, by the package impl. -/
namespace Go.Proofs.YtclffohjpbmnbaaGreatDoor
open Go.ChangeShapes Go.WideShapes Go.ChangeAt Go.RowKit

set_option maxHeartbeats 2000000 in
theorem attemptsAt_c (v u : Value) (l : List Att) (p : List Int) (w : World) (hv : AttsAt w v l) (hu : IntsAt w u p) :
    Calls Tryz.prog 95 #[v, u] w (AskPost l p w) := by
  have HV := Lib.hid hv
  have HU := Lib.hid hu
  have hq := iValidAttempts_c v l w hv
  cases hE : okAtts l
  · rw [hE] at hq
    have HR : Hid (askCode l p = 1) := Lib.hid (by unfold askCode; rw [hE]; rfl)
    clear hE hv hu
    go_enter Tryz.func95, Tryz.ntmps95
    go_wp2_with fail
    refine hq.mono ?_
    rintro e w1 ⟨rfl, hb1⟩
    clear hq
    go_wp2
    go_ret2
    exact .inl ⟨by rw [HR.out]; decide, by rw [HR.out]; rfl, hb1⟩
  · rw [hE] at hq
    have HQ2 := Lib.hid (fun W a => validPattern_c u p W a)
    cases hE2 : okPat p
    · have hq2 := HQ2.out
      rw [hE2] at hq2
      have HQ2 := Lib.hid hq2
      have HR : Hid (askCode l p = 1) := Lib.hid (by unfold askCode; rw [hE, hE2]; rfl)
      clear hE hE2 hv hu hq2
      go_enter Tryz.func95, Tryz.ntmps95
      go_wp2_with fail
      refine hq.mono ?_
      rintro e w1 ⟨rfl, hb1⟩
      clear hq
      go_wp2_with fail
      refine (HQ2.out w1 (HU.out.below hb1)).mono ?_
      rintro e w2 ⟨rfl, hb2⟩
      go_wp2
      go_ret2
      exact .inl ⟨by rw [HR.out]; decide, by rw [HR.out]; rfl, bthen hb1 hb2⟩
    · have hq2 := HQ2.out
      rw [hE2] at hq2
      have HQ2 := Lib.hid hq2
      have hpl := okPat_len hE2
      have HQ3 := Lib.hid (fun W b => canonical_c u p W b hpl.1 hpl.2)
      have HR : Hid (askCode l p = if (atsL l p).length = 0 then 3 else 0) := Lib.hid (by unfold askCode; rw [hE, hE2]; rfl)
      have HE := Lib.hid (And.intro hE hE2)
      obtain ⟨hx, h100⟩ := okAtts_nth hE
      have HX := Lib.hid hx; clear hx
      obtain ⟨a, n, cap, rfl, hn, -, -, hc⟩ := hv
      have Hc := Lib.hid hc; clear hc
      have Hn := Lib.hid hn
      have hn100 : n ≤ 100 := by omega
      clear hE hE2 hu hq2 hn h100 hpl
      go_enter Tryz.func95, Tryz.ntmps95
      go_wp2_with fail
      refine hq.mono ?_
      rintro e w1 ⟨rfl, hb1⟩
      clear hq
      go_wp2_with fail
      refine (HQ2.out w1 (HU.out.below hb1)).mono ?_
      rintro e w2 ⟨rfl, hb2⟩
      have hb3 := bthen hb1 hb2
      go_wp2_with fail
      refine (HQ3.out w2 (HU.out.below hb3)).mono ?_
      rintro e w4 ⟨a1, n1, c1, rfl, ho, hb4⟩
      have HA := Lib.hid (OwnInts.at ho)
      have hb5 := bthen hb3 hb4
      have Hc1 := Lib.hid (Hc.out.below hb5)
      have Hs := Lib.hid hb5.size
      clear ho Hc HQ2 HQ3
      go_wp2
      go_loopw [7, 23] (fun s i wr => ∃ (k : Nat) (a' : Option Addr) (n' c' : Nat), i = .int .i64 k ∧ k ≤ n ∧ s = .slice a' n' c' ∧ Hid (OwnInts wr w4.heap.size (.slice a' n' c') (atsN l (canL p) k)) ∧ Below w4.heap.size w4 wr) (fun _ i _ => n - (intOf i).toNat)
      case atStart => exact ⟨0, _, _, _, rfl, Nat.zero_le _, rfl, Lib.hid (own_empty w4), by go_grown⟩
      case round =>
        obtain ⟨k, a', n', c', rfl, hk, rfl, HO, hb⟩ := hrel
        by_cases hlt : k < n
        · obtain ⟨b, o, pa, pn, pc, rfl, hbs, hp, c0, c1', c2'⟩ := att_cells (Hc1.out.below hb) k (by rw [← Hn.out]; exact hlt)
          have hok := okPat_len (HX.out k (by rw [← Hn.out]; exact hlt)).1
          have HT1 := Lib.hid (atsN_yes l (canL p) k)
          have HT0 := Lib.hid (atsN_no l (canL p) k)
          have Hlen : Hid ((atsN l (canL p) k).length ≤ 100) := Lib.hid (by have := atsN_len l (canL p) k; omega)
          have HQ := Lib.hid (fun W a => canonical_c (.slice pa pn pc) (nth l k).pattern W a hok.1 hok.2)
          have HP := Lib.hid hp
          have hsz0 := hb.size
          clear hp hok
          generalize nth l k = x at *
          go_wp2_with fail
          generalize hG : World.alloc wr (.cells #[.slice pa pn pc, .int .i64 x.catches, .bool x.dropped] 103) = wx at *
          have hbx : Below wr.heap.size wr wx := by rw [← hG]; go_grown
          clear hG
          refine (HQ.out wx (HP.out.below hbx)).mono ?_
          rintro e w2' ⟨a2, n2, c2, rfl, ho2, hb2'⟩
          have hb2 := bthen hbx hb2'
          have HA2 := Lib.hid (OwnInts.at ho2)
          clear ho2 HQ HP
          have hq := iSame_c (.slice a2 n2 c2) (.slice a1 n1 c1) (canL x.pattern) (canL p) w2' HA2.out ((HA.out.below hb).below hb2)
          have HO2 := Lib.hid (own_below HO.out hb2)
          clear HO HA2
          cases hE : same2 eqI (canL x.pattern) (canL p)
          · rw [hE] at hq
            have HT := Lib.hid (HT0.out hE)
            clear hE HT0 HT1
            go_wp2_with fail
            refine hq.mono ?_
            rintro e w3 ⟨rfl, hb3⟩
            clear hq
            have HO3 := Lib.hid (own_below HO2.out hb3)
            go_wp2
            exact ⟨⟨k + 1, _, _, _, by go_num, hlt, rfl, Lib.hid (by rw [HT.out]; exact HO3.out), bthen (bthen hb hb2) hb3⟩, by simp [intOf]; omega⟩
          · rw [hE] at hq
            have HT := Lib.hid (HT1.out hE)
            clear hE HT0 HT1
            go_wp2_with fail
            refine hq.mono ?_
            rintro e w3 ⟨rfl, hb3⟩
            clear hq
            have HO3 := Lib.hid (own_below HO2.out hb3)
            have hb4 := bthen (bthen hb hb2) hb3
            have hsz := hb4.size
            go_wp2_with (at_builtin; refine wpList_app_ints rfl _ _ rfl w4.heap.size _ _ rfl (HO3.out.alloc _) _ _ _ [(k : Int)] rfl rfl (ints_new _ _ _) (by have := Hlen.out; simp; omega) (by simp; omega) ?_)
            intro a4 n4 c4 w6 ho4 hg4 _ _
            have hb6 : Below w4.heap.size w4 w6 := (hb4.alloc (by omega) _).grown hg4 (by simp; omega) (fun g hg => (World.ownsRow.lt HO3.out g hg).1)
            have HO4 : Hid (OwnInts w6 w4.heap.size (.slice a4 n4 c4) (atsN l (canL p) (k + 1))) := Lib.hid (by rw [HT.out]; exact ho4)
            clear ho4 hg4 HO3 HO2 HT
            go_wp2
            exact ⟨⟨k + 1, a4, n4, c4, by go_num, hlt, rfl, HO4, hb6⟩, by simp [intOf]; omega⟩
        · obtain rfl : k = n := by omega
          have HO3 : Hid (OwnInts wr w4.heap.size (.slice a' n' c') (atsL l p)) := Lib.hid (by unfold atsL; rw [← Hn.out]; exact HO.out)
          obtain ⟨ax, nx, capx, he, hn, -, -, -⟩ := OwnInts.at HO3.out
          cases he
          have Hn' := Lib.hid hn
          clear hn HO
          by_cases h0 : n' = 0
          · have HR0 : Hid (askCode l p = 3) := Lib.hid (by rw [HR.out, if_pos (by rw [← Hn'.out]; exact h0)])
            go_wp2
            go_ret2
            exact .inl ⟨by rw [HR0.out]; decide, by rw [HR0.out]; rfl, bthen hb5 hb⟩
          · have HR0 : Hid (askCode l p = 0) := Lib.hid (by rw [HR.out, if_neg (by rw [← Hn'.out]; exact h0)])
            go_wp2
            go_ret2
            exact .inr ⟨HE.out.1, HE.out.2, by rw [← Hn'.out]; omega, HR0.out, _, _, _, rfl, own_mono HO3.out Hs.out, bthen hb5 hb⟩
end Go.Proofs.YtclffohjpbmnbaaGreatDoor
