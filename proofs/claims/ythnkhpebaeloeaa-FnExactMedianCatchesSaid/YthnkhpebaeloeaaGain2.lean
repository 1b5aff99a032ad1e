/- Gain2: the catches of the attempts at a pattern, by the package impl. -/
import Derived.Test.YthnkhpebaeloeaaGain
namespace Go.Proofs.Ythnkhpebaeloeaa
open Go.ChangeShapes Go.WideShapes Go.ChangeAt Go.RowKit

def askL (l : List Att) (p : List Int) : List Int := if askCode l p = 0 then atsL l p else []
theorem askCode_ok {l : List Att} {p : List Int} (h : askCode l p = 0) : okAtts l = true := by
  unfold askCode at h
  cases hE : okAtts l
  · rw [hE] at h; simp at h
  · rfl
theorem ask_gen {l : List Att} {p : List Int} {w w' : World} {e : Ending} (h : AskPost l p w e w') :
    ∃ a n c, e = .returned (.tuple #[.slice a n c, .int .i64 (askCode l p)]) ∧ IntsAt w' (.slice a n c) (askL l p) ∧ Below w.heap.size w w' := by
  rcases h with ⟨h0, rfl, hb⟩ | ⟨_, _, _, h0, a, n, c, rfl, ho, hb⟩
  · refine ⟨none, 0, 0, rfl, ?_, hb⟩
    unfold askL; rw [if_neg h0]
    exact ⟨none, 0, 0, rfl, rfl, Nat.le_refl _, by decide, fun i hi => absurd hi (Nat.not_lt_zero _)⟩
  · refine ⟨a, n, c, by rw [h0], ?_, hb⟩
    unfold askL; rw [if_pos h0]
    exact OwnInts.at ho
theorem askL_nth (l : List Att) (p : List Int) : ∀ k, k < (askL l p).length → ∃ j : Nat, nth (askL l p) k = (j : Int) ∧ j < l.length := by
  intro k hk
  unfold askL at hk ⊢
  split at hk
  · rename_i h; rw [if_pos h]; exact atsL_nth hk
  · exact absurd hk (Nat.not_lt_zero _)
theorem askL_len (l : List Att) (p : List Int) : (askL l p).length ≤ 100 := by
  unfold askL; split
  · rename_i h
    have := (okAtts_nth (askCode_ok h)).2
    have h2 := atsN_len l (canL p) l.length
    unfold atsL; omega
  · exact Nat.zero_le _

set_option maxHeartbeats 1000000 in
theorem catchesAt_c (v u : Value) (l : List Att) (p : List Int) (w : World) (hv : AttsAt w v l) (hu : IntsAt w u p) :
    Calls Try.prog 51 #[v, u] w (fun e w' => ∃ a n c, e = .returned (.tuple #[.slice a n c, .int .i64 (askCode l p)]) ∧ OwnInts w' w.heap.size (.slice a n c) (catL l (askL l p)) ∧ Below w.heap.size w w') := by
  have HQ := Lib.hid (attemptsAt_c v u l p w hv hu)
  obtain ⟨a, n, cap, rfl, hn, -, -, hc⟩ := hv
  have Hc := Lib.hid hc; clear hc
  have Hn := Lib.hid hn; clear hn hu
  go_enter Try.func51, Try.ntmps51
  go_wp2_with fail
  refine HQ.out.mono ?_
  intro e w1 hp
  obtain ⟨a1, m, c1, rfl, ho, hb1⟩ := ask_gen hp
  obtain ⟨ax, mx, cx, he, hm, -, -, hc'⟩ := ho
  cases he
  have Hc1 := Lib.hid (Hc.out.below hb1)
  have Hc' := Lib.hid hc'; clear hc'
  have hm100 : m ≤ 100 := by have := askL_len l p; omega
  have Hm := Lib.hid hm; clear hm hp HQ Hc
  have Ho := Lib.hid (askL_nth l p)
  have Hs := Lib.hid hb1.size
  go_wp2
  go_loopw [8, 20] (fun s i wr => ∃ (k : Nat) (a' : Option Addr) (n' c' : Nat), i = .int .i64 k ∧ k ≤ m ∧ s = .slice a' n' c' ∧ Hid (OwnInts wr w1.heap.size (.slice a' n' c') (catL l ((askL l p).take k))) ∧ Below w1.heap.size w1 wr) (fun _ i _ => m - (intOf i).toNat)
  case atStart => exact ⟨0, _, _, _, rfl, Nat.zero_le _, rfl, Lib.hid (own_empty w1), by go_grown⟩
  case round =>
    obtain ⟨k, a', n', c', rfl, hk, rfl, HO, hb⟩ := hrel
    by_cases hlt : k < m
    · obtain ⟨b', o', rfl, hbs', d0⟩ := (Hc'.out.below hb) k (by rw [← Hm.out]; exact hlt)
      obtain ⟨j, hj, hjl⟩ := Ho.out k (by rw [← Hm.out]; exact hlt)
      have hjn : j < n := by rw [Hn.out]; exact hjl
      obtain ⟨b, o, pa, pn, pc, rfl, hbs, hp, c0, c1, c2⟩ := att_cells (Hc1.out.below hb) j hjl
      have HT : Hid (catL l ((askL l p).take (k + 1)) = catL l ((askL l p).take k) ++ [(nth l j).catches]) := Lib.hid (by unfold catL; rw [take_nth (askL l p) k (by rw [← Hm.out]; exact hlt), List.map_append, List.map_singleton, hj, Int.toNat_natCast])
      have Hlen : Hid ((catL l ((askL l p).take k)).length ≤ 100) := Lib.hid (by rw [catL_len, List.length_take]; omega)
      rw [hj] at d0
      clear hp hj hjl
      generalize nth l j = x at *
      obtain ⟨xp, xc, xd⟩ := x
      dsimp only at c1 c2 HT
      have hsz := hb.size
      go_wp2_with (at_builtin; refine wpList_app_ints rfl _ _ rfl w1.heap.size _ _ rfl (HO.out.alloc _) _ _ _ [xc] rfl rfl (ints_new _ _ _) (by have := Hlen.out; simp; omega) (by simp; omega) ?_)
      intro a4 n4 c4 w6 ho4 hg4 _ _
      have hb6 : Below w1.heap.size w1 w6 := (hb.alloc (by omega) _).grown hg4 (by simp; omega) (fun g hg => (World.ownsRow.lt HO.out g hg).1)
      have HO4 : Hid (OwnInts w6 w1.heap.size (.slice a4 n4 c4) (catL l ((askL l p).take (k + 1)))) := Lib.hid (by rw [HT.out]; exact ho4)
      clear ho4 hg4 HO HT
      go_wp2
      exact ⟨⟨k + 1, a4, n4, c4, by go_num, hlt, rfl, HO4, hb6⟩, by simp [intOf]; omega⟩
    · obtain rfl : k = m := by omega
      have HO3 : Hid (OwnInts wr w1.heap.size (.slice a' n' c') (catL l (askL l p))) := Lib.hid (by have := HO.out; rwa [List.take_of_length_le (by rw [← Hm.out]; omega)] at this)
      clear HO
      go_wp2
      go_ret2
      exact ⟨_, _, _, rfl, own_mono HO3.out Hs.out, bthen hb1 hb⟩

end Go.Proofs.Ythnkhpebaeloeaa
