/- Lines: the lines of a text, the parts of a line, by the package impl. -/
import Derived.Test.YtnhdoppabfmonaaDoorCut
namespace Go.Proofs.YtnhdoppabfmonaaDoor
open Go.ChangeShapes Go.WideShapes Go.ChangeAt Go.RowKit

def strSz : Value → Nat
  | .string b => b.size
  | _ => 0
theorem lines_stop {cs : List Int} {acc : List (List Int)} {p : List Int} (h : splitL 10 cs = acc ++ [p]) : linesOk cs = (p == []) ∧ (p = [] → linesL cs = acc) := by
  unfold linesL linesOk
  rw [h]
  constructor
  · cases p <;> simp
  · rintro rfl; simp
theorem linesL_not {cs : List Int} (h : linesOk cs = false) : linesL cs = [] := by unfold linesL; rw [h]; rfl
set_option maxHeartbeats 1000000 in
theorem textLines_c (s : ByteArray) (w : World) (hs : s.size ≤ 1048576) :
    Calls Tryd.prog 45 #[.string s] w (GivesStrsB ((linesL (chars s)).map strOfNums) (linesOk (chars s)) w) := by
  have hcs : (chars s).length ≤ 1048576 := by rw [chars_len]; exact hs
  have hs0 : strOfNums ((chars s).drop 0) = s := by rw [List.drop_zero, strOf_chars]
  have Hin := Lib.hid (chars_in s)
  generalize chars s = cs at *
  subst hs0
  go_enter Tryd.func45, Tryd.ntmps45
  go_wp2
  go_loopw [0, 4] (fun t o wr => ∃ (f : Nat) (t' : ByteArray) (a' : Option Addr) (n' c' : Nat) (acc : List (List Int)), t = .string t' ∧ o = .slice a' n' c' ∧ f ≤ cs.length ∧ acc.length ≤ f ∧ Hid (chars t' = cs.drop f) ∧ Hid (OwnStrs wr w.heap.size (.slice a' n' c') (acc.map strOfNums)) ∧ Hid (splitL 10 cs = acc ++ splitL 10 (cs.drop f)) ∧ Below w.heap.size w wr) (fun t _ _ => strSz t)
  case atStart => exact ⟨0, _, _, _, _, [], rfl, rfl, Nat.zero_le _, Nat.le_refl _, Lib.hid (chars_strOf (fun x hx => Hin.out x (by simpa using hx))), Lib.hid (own_strs_empty w), Lib.hid (by simp), by go_grown⟩
  case round =>
    obtain ⟨f, t, a', n', c', acc, rfl, rfl, hf, hacc, HT, HO, HS, hb⟩ := hrel
    have htl : t.size = cs.length - f := by rw [← chars_len, HT.out, List.length_drop]
    by_cases h0 : t.size = 0
    · have he : t.toList.isEmpty = true := by rw [isEmpty_size]; exact decide_eq_true h0
      have HE := Lib.hid (lines_stop (p := []) (by rw [HS.out, List.drop_eq_nil_of_le (by omega)]; rfl))
      have HO2 : Hid (OwnStrs wr w.heap.size (.slice a' n' c') ((linesL cs).map strOfNums)) := Lib.hid (by rw [HE.out.2 rfl]; exact HO.out)
      have HB : Hid (linesOk cs = true) := Lib.hid HE.out.1
      clear HS HE HT h0 htl
      go_wp2
      go_ret2
      exact ⟨_, _, _, by rw [HB.out]; rfl, HO2.out, hb⟩
    · have he : t.toList.isEmpty = false := by rw [isEmpty_size]; exact decide_eq_false h0
      have ht20 : t.size ≤ 1048576 := by omega
      have HQ := Lib.hid (cut_c t ⟨#[10]⟩ 10 rfl wr ht20)
      have hsf := split_first 10 (cs.drop f)
      rw [← HT.out] at hsf
      by_cases hfd : findL 10 (chars t) < t.size
      · have hq := HQ.out
        unfold cutV at hq
        rw [if_pos hfd] at hq
        rw [if_pos (by rw [chars_len]; exact hfd)] at hsf
        have HS2 : Hid (splitL 10 cs = (acc ++ [(chars t).take (findL 10 (chars t))]) ++ splitL 10 (cs.drop (f + (findL 10 (chars t) + 1)))) := Lib.hid (by
          rw [HS.out, ← HT.out, hsf, HT.out, List.drop_drop]; simp)
        have HT2 : Hid (chars (strOfNums ((chars t).drop (findL 10 (chars t) + 1))) = cs.drop (f + (findL 10 (chars t) + 1))) := Lib.hid (by
          rw [chars_strOf (fun x hx => chars_in t x (List.mem_of_mem_drop hx)), HT.out, List.drop_drop])
        have Hsz : Hid ((strOfNums ((chars t).drop (findL 10 (chars t) + 1))).size < t.size) := Lib.hid (by rw [strOfNums_size, List.length_drop, chars_len]; omega)
        have hlen : (acc.map strOfNums).length ≤ 1048576 := by rw [List.length_map]; omega
        have hf2 : f + (findL 10 (chars t) + 1) ≤ cs.length := by omega
        clear hsf HS HT HQ h0
        generalize findL 10 (chars t) = j at *
        generalize (chars t).take j = p at *
        generalize strOfNums ((chars t).drop (j + 1)) = r at *
        have HQ := Lib.hid hq
        clear hq htl
        go_wp2_with fail
        refine HQ.out.mono ?_
        rintro e w1 ⟨rfl, hb1⟩
        have HO1 := Lib.hid (own_below HO.out hb1)
        have hbb := bthen hb hb1
        clear HO hb hb1
        go_wp2_with (at_builtin; refine wpList_app_strs rfl _ _ rfl w.heap.size _ _ rfl (HO1.out.alloc _) _ _ _ [strOfNums p] rfl rfl (strs_new _ _ _) (by simp only [List.length_cons, List.length_nil]; omega) (by have := hbb.size; simp; omega) ?_)
        intro a6 n6 c6 w6 ho6 hg6 _ _
        have hb6 : Below w.heap.size w w6 := (hbb.alloc hbb.size _).grown hg6 (by have := hbb.size; simp; omega) (fun g hg => (World.ownsRow.lt HO1.out g hg).1)
        have HO6 : Hid (OwnStrs w6 w.heap.size (.slice a6 n6 c6) ((acc ++ [p]).map strOfNums)) := Lib.hid (by rw [List.map_append, List.map_singleton]; exact ho6)
        clear ho6 hg6 HO1
        go_wp2
        exact ⟨⟨f + (j + 1), r, a6, n6, c6, _, rfl, rfl, hf2, by simp; omega, HT2, HO6, HS2, hb6⟩, Hsz.out⟩
      · have hq := HQ.out
        unfold cutV at hq
        rw [if_neg hfd] at hq
        rw [if_neg (by rw [chars_len]; exact hfd)] at hsf
        have HE := Lib.hid (lines_stop (p := chars t) (by rw [HS.out, ← HT.out, hsf]))
        have HB : Hid (linesOk cs = false) := Lib.hid (by
          rw [HE.out.1]
          cases h : chars t with
          | nil => have := chars_len t; rw [h] at this; simp at this; omega
          | cons a b => rfl)
        have HL : Hid (linesL cs = []) := Lib.hid (linesL_not HB.out)
        have HQ := Lib.hid hq
        clear hsf HS HT HE hq h0 hfd
        go_wp2_with fail
        refine HQ.out.mono ?_
        rintro e w1 ⟨rfl, hb1⟩
        go_wp2
        go_ret2
        exact ⟨_, _, _, by rw [HB.out]; rfl, by rw [HL.out]; exact World.ownsRow_nil _ _ _ _, bthen hb hb1⟩
set_option maxHeartbeats 1000000 in
theorem parts_c (s : ByteArray) (w : World) (hs : s.size ≤ 1048576) :
    Calls Tryd.prog 46 #[.string s] w (GivesStrs ((splitL 32 (chars s)).map strOfNums) w) := by
  have hcs : (chars s).length ≤ 1048576 := by rw [chars_len]; exact hs
  have hs0 : strOfNums ((chars s).drop 0) = s := by rw [List.drop_zero, strOf_chars]
  have Hin := Lib.hid (chars_in s)
  generalize chars s = cs at *
  subst hs0
  go_enter Tryd.func46, Tryd.ntmps46
  go_wp2
  go_loopw [0, 3] (fun t o wr => ∃ (f : Nat) (t' : ByteArray) (a' : Option Addr) (n' c' : Nat) (acc : List (List Int)), t = .string t' ∧ o = .slice a' n' c' ∧ f ≤ cs.length ∧ acc.length ≤ f ∧ Hid (chars t' = cs.drop f) ∧ Hid (OwnStrs wr w.heap.size (.slice a' n' c') (acc.map strOfNums)) ∧ Hid (splitL 32 cs = acc ++ splitL 32 (cs.drop f)) ∧ Below w.heap.size w wr) (fun t _ _ => strSz t)
  case atStart => exact ⟨0, _, _, _, _, [], rfl, rfl, Nat.zero_le _, Nat.le_refl _, Lib.hid (chars_strOf (fun x hx => Hin.out x (by simpa using hx))), Lib.hid (own_strs_empty w), Lib.hid (by simp), by go_grown⟩
  case round =>
    obtain ⟨f, t, a', n', c', acc, rfl, rfl, hf, hacc, HT, HO, HS, hb⟩ := hrel
    have htl : t.size = cs.length - f := by rw [← chars_len, HT.out, List.length_drop]
    have ht20 : t.size ≤ 1048576 := by omega
    have HQ := Lib.hid (cut_c t ⟨#[32]⟩ 32 rfl wr ht20)
    have hsf := split_first 32 (cs.drop f)
    rw [← HT.out] at hsf
    have hlen : (acc.map strOfNums).length ≤ 1048576 := by rw [List.length_map]; omega
    by_cases hfd : findL 32 (chars t) < t.size
    · have hq := HQ.out
      unfold cutV at hq
      rw [if_pos hfd] at hq
      rw [if_pos (by rw [chars_len]; exact hfd)] at hsf
      have HS2 : Hid (splitL 32 cs = (acc ++ [(chars t).take (findL 32 (chars t))]) ++ splitL 32 (cs.drop (f + (findL 32 (chars t) + 1)))) := Lib.hid (by
        rw [HS.out, ← HT.out, hsf, HT.out, List.drop_drop]; simp)
      have HT2 : Hid (chars (strOfNums ((chars t).drop (findL 32 (chars t) + 1))) = cs.drop (f + (findL 32 (chars t) + 1))) := Lib.hid (by
        rw [chars_strOf (fun x hx => chars_in t x (List.mem_of_mem_drop hx)), HT.out, List.drop_drop])
      have Hsz : Hid ((strOfNums ((chars t).drop (findL 32 (chars t) + 1))).size < t.size) := Lib.hid (by rw [strOfNums_size, List.length_drop, chars_len]; omega)
      have hf2 : f + (findL 32 (chars t) + 1) ≤ cs.length := by omega
      clear hsf HS HT HQ
      generalize findL 32 (chars t) = j at *
      generalize (chars t).take j = p at *
      generalize strOfNums ((chars t).drop (j + 1)) = r at *
      have HQ := Lib.hid hq
      clear hq htl
      go_wp2_with fail
      refine HQ.out.mono ?_
      rintro e w1 ⟨rfl, hb1⟩
      have HO1 := Lib.hid (own_below HO.out hb1)
      have hbb := bthen hb hb1
      clear HO hb hb1
      go_wp2_with (at_builtin; refine wpList_app_strs rfl _ _ rfl w.heap.size _ _ rfl (HO1.out.alloc _) _ _ _ [strOfNums p] rfl rfl (strs_new _ _ _) (by simp only [List.length_cons, List.length_nil]; omega) (by have := hbb.size; simp; omega) ?_)
      intro a6 n6 c6 w6 ho6 hg6 _ _
      have hb6 : Below w.heap.size w w6 := (hbb.alloc hbb.size _).grown hg6 (by have := hbb.size; simp; omega) (fun g hg => (World.ownsRow.lt HO1.out g hg).1)
      have HO6 : Hid (OwnStrs w6 w.heap.size (.slice a6 n6 c6) ((acc ++ [p]).map strOfNums)) := Lib.hid (by rw [List.map_append, List.map_singleton]; exact ho6)
      clear ho6 hg6 HO1
      go_wp2
      exact ⟨⟨f + (j + 1), r, a6, n6, c6, _, rfl, rfl, hf2, by simp; omega, HT2, HO6, HS2, hb6⟩, Hsz.out⟩
    · have hq := HQ.out
      unfold cutV at hq
      rw [if_neg hfd] at hq
      rw [if_neg (by rw [chars_len]; exact hfd)] at hsf
      have HS2 : Hid ((splitL 32 cs).map strOfNums = acc.map strOfNums ++ [t]) := Lib.hid (by rw [HS.out, ← HT.out, hsf, List.map_append, List.map_singleton, strOf_chars])
      have HQ := Lib.hid hq
      clear hsf HS HT hq hfd
      go_wp2_with fail
      refine HQ.out.mono ?_
      rintro e w1 ⟨rfl, hb1⟩
      have HO1 := Lib.hid (own_below HO.out hb1)
      have hbb := bthen hb hb1
      clear HO hb hb1
      go_wp2_with (at_builtin; refine wpList_app_strs rfl _ _ rfl w.heap.size _ _ rfl (HO1.out.alloc _) _ _ _ [t] rfl rfl (strs_new _ _ _) (by simp only [List.length_cons, List.length_nil]; omega) (by have := hbb.size; simp; omega) ?_)
      intro a6 n6 c6 w6 ho6 hg6 _ _
      have hb6 : Below w.heap.size w w6 := (hbb.alloc hbb.size _).grown hg6 (by have := hbb.size; simp; omega) (fun g hg => (World.ownsRow.lt HO1.out g hg).1)
      have HO6 : Hid (OwnStrs w6 w.heap.size (.slice a6 n6 c6) ((splitL 32 cs).map strOfNums)) := Lib.hid (by rw [HS2.out]; exact ho6)
      clear ho6 hg6 HO1
      go_wp2
      go_ret
      exact ⟨_, _, _, rfl, HO6.out, hb6⟩
end Go.Proofs.YtnhdoppabfmonaaDoor
