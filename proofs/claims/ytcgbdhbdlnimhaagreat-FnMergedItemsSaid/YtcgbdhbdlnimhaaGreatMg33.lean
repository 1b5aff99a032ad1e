import Derived.Test.YtcgbdhbdlnimhaaGreatMg31
import Derived.Test.YtcgbdhbdlnimhaaGreatMg9
/- Cut: texts cut apart at a byte, by both packages. -/
namespace Go.Proofs.YtcgbdhbdlnimhaaGreat
open Go.ChangeShapes Go.WideShapes Go.ChangeAt Go.RowKit

def GivesStrs (l : List ByteArray) (w : World) (e : Ending) (w' : World) : Prop := ∃ a n c, e = .returned (.slice a n c) ∧ OwnStrs w' w.heap.size (.slice a n c) l ∧ Below w.heap.size w w'
def GivesStrsB (l : List ByteArray) (b : Bool) (w : World) (e : Ending) (w' : World) : Prop := ∃ a n c, e = .returned (.tuple #[.slice a n c, .bool b]) ∧ OwnStrs w' w.heap.size (.slice a n c) l ∧ Below w.heap.size w w'
theorem cmono {w : World} {base base' : Nat} {e : TypeId} {size : Nat} {v : Value} {n : Nat} {xs : List Value} (h : w.ownsRow base' e size v n xs) (hb : base ≤ base') : w.ownsRow base e size v n xs := by
  obtain ⟨h1, h2⟩ := h
  refine ⟨h1, ?_⟩
  rcases h2 with h2 | ⟨g, cap, cur, hv, hg, r⟩
  · exact .inl h2
  · exact .inr ⟨g, cap, cur, hv, Nat.le_trans hb hg, r⟩
def cutV (s : ByteArray) (c : Int) : Value :=
  if findL c (chars s) < s.size then .tuple #[.string (strOfNums ((chars s).take (findL c (chars s)))), .string (strOfNums ((chars s).drop (findL c (chars s) + 1))), .bool true]
  else .tuple #[.string s, .string ByteArray.empty, .bool false]
theorem extract_one (s sep : ByteArray) (c : Int) (hsep : chars sep = [c]) (k : Nat) (hk : k < s.size) : ((s.extract k (k + 1)).toList == sep.toList) = decide (nth (chars s) k = c) := by
  rw [beq_bytes]
  apply decide_eq_decide.2
  have he : chars (s.extract k (k + 1)) = [nth (chars s) k] := by
    rw [chars_extract, take_nth _ k (by rw [chars_len]; exact hk), List.drop_append]
    have h : ((chars s).take k).length = k := by rw [List.length_take, chars_len]; omega
    simp [h]
  constructor
  · intro h
    rw [h, hsep] at he
    simpa using he.symm
  · intro h
    apply chars_inj
    rw [he, hsep, h]
theorem extract_str (s : ByteArray) (i j : Nat) : s.extract i j = strOfNums (((chars s).take j).drop i) := by
  rw [← chars_extract, strOf_chars]
set_option maxHeartbeats 1000000 in
theorem cut_c (s sep : ByteArray) (c : Int) (hsep : chars sep = [c]) (w : World) (hs : s.size ≤ 1048576) :
    Calls Tryz.prog 70 #[.string s, .string sep] w (Gives (cutV s c) w) := by
  have hs1 : sep.size = 1 := by rw [← chars_len, hsep]; rfl
  have HSep := Lib.hid hsep; clear hsep
  go_enter Tryz.func70, Tryz.ntmps70
  go_wp2
  go_loopw [7] (fun i wr => ∃ k : Nat, i = .int .i64 k ∧ k ≤ s.size ∧ Hid (k + findL c ((chars s).drop k) = findL c (chars s)) ∧ Below w.heap.size w wr) (fun i _ => s.size - (intOf i).toNat)
  case atStart => exact ⟨0, rfl, Nat.zero_le _, Lib.hid (by simp), Below.refl _ _⟩
  case round =>
    obtain ⟨k, rfl, hk, HF, hb⟩ := hrel
    by_cases hlt : k < s.size
    · have hE := extract_one s sep c HSep.out k hlt
      have hkl : k < (chars s).length := by rw [chars_len]; exact hlt
      by_cases hc : nth (chars s) k = c
      · have HFk : Hid (findL c (chars s) = k) := Lib.hid (by rw [← HF.out, findL_hit hkl hc]; rfl)
        have HR : Hid (cutV s c = .tuple #[.string (s.extract 0 k), .string (s.extract (k + 1) s.size), .bool true]) := Lib.hid (by
          unfold cutV
          have ht : (chars s).take s.size = chars s := List.take_of_length_le (by rw [chars_len]; exact Nat.le_refl _)
          rw [HFk.out, if_pos hlt, extract_str s 0 k, extract_str s (k + 1) s.size, List.drop_zero, ht])
        rw [decide_eq_true hc] at hE
        have hk1 : k + 1 ≤ s.size := hlt
        clear hc hkl HF HFk
        go_wp2
        go_quiet (fail)
        go_wp2
        go_ret3
        exact ⟨by rw [HR.out]; rfl, below_drewN hb _⟩
      · have HF2 : Hid (k + 1 + findL c ((chars s).drop (k + 1)) = findL c (chars s)) := Lib.hid (by rw [← HF.out, findL_step hkl hc])
        rw [decide_eq_false hc] at hE
        clear hc hkl HF
        go_wp2
        exact ⟨⟨k + 1, by go_num, hlt, HF2, hb⟩, by simp [intOf]; omega⟩
    · have HR : Hid (cutV s c = .tuple #[.string s, .string ByteArray.empty, .bool false]) := Lib.hid (by
        unfold cutV
        rw [if_neg]
        have := HF.out
        rw [drop_end (chars s) k s.size (chars_len s).symm (by omega)] at this
        simp [findL] at this; omega)
      have hgt : ¬ k + 1 ≤ s.size := by omega
      go_wp2
      go_ret3
      exact ⟨by rw [HR.out]; rfl, hb⟩
set_option maxHeartbeats 1000000 in
theorem l01Split_c (s : ByteArray) (c : Int) (w : World) (hs : s.size ≤ 1048576) :
    Calls Tryz.prog 76 #[.string s, .int .u8 c] w (GivesStrs ((splitL c (chars s)).map strOfNums) w) := by
  go_enter Tryz.func76, Tryz.ntmps76
  go_wp2
  go_loopw [5, 6, 7] (fun o f i wr => ∃ (k g : Nat) (a' : Option Addr) (n' c' : Nat) (acc : List (List Int)), i = .int .i64 k ∧ f = .int .i64 g ∧ o = .slice a' n' c' ∧ g ≤ k ∧ k ≤ s.size ∧ acc.length ≤ k ∧ Hid (OwnStrs wr w.heap.size (.slice a' n' c') (acc.map strOfNums)) ∧ Hid (splitL c (chars s) = acc ++ preL (((chars s).take k).drop g) (splitL c ((chars s).drop k))) ∧ Below w.heap.size w wr) (fun _ _ i _ => s.size - (intOf i).toNat)
  case atStart => exact ⟨0, 0, _, _, _, [], rfl, rfl, rfl, Nat.le_refl _, Nat.zero_le _, Nat.zero_le _, Lib.hid (own_strs_empty w), Lib.hid (by simp [preL_nil (splitL_ne _ _)]), by go_grown⟩
  case round =>
    obtain ⟨k, g, a', n', c', acc, rfl, rfl, rfl, hgk, hk, hacc, HO, HS, hb⟩ := hrel
    by_cases hlt : k < s.size
    · have hcn := (chars_nth s k hlt).symm
      have hkl : k < (chars s).length := by rw [chars_len]; exact hlt
      by_cases hc : nth (chars s) k = c
      · have HS2 : Hid (splitL c (chars s) = (acc ++ [((chars s).take k).drop g]) ++ preL (((chars s).take (k + 1)).drop (k + 1)) (splitL c ((chars s).drop (k + 1)))) := Lib.hid (by
          rw [HS.out, split_hit hkl hc]
          have h0 : ((chars s).take (k + 1)).drop (k + 1) = [] := List.drop_eq_nil_of_le (by rw [List.length_take]; omega)
          rw [h0, preL_nil (splitL_ne _ _)]
          simp [preL])
        have HX : Hid (s.extract g k = strOfNums (((chars s).take k).drop g)) := Lib.hid (extract_str s g k)
        rw [hc] at hcn
        clear hc hkl HS
        have hlen : (acc.map strOfNums).length ≤ 1048576 := by rw [List.length_map]; omega
        go_wp2_with (at_builtin; refine wpList_app_strs rfl _ _ rfl w.heap.size _ _ rfl (HO.out.alloc _) _ _ _ [s.extract g k] rfl rfl (strs_new _ _ _) (by simp only [List.length_cons, List.length_nil]; omega) (by have := hb.size; simp; omega) ?_)
        intro a6 n6 c6 w6 ho6 hg6 _ _
        have hb6 : Below w.heap.size w w6 := (hb.alloc hb.size _).grown hg6 (by have := hb.size; simp; omega) (fun g hg => (World.ownsRow.lt HO.out g hg).1)
        have HO6 : Hid (OwnStrs w6 w.heap.size (.slice a6 n6 c6) ((acc ++ [((chars s).take k).drop g]).map strOfNums)) := Lib.hid (by rw [List.map_append, List.map_singleton, ← HX.out]; exact ho6)
        clear ho6 hg6 HO
        go_wp2
        exact ⟨⟨k + 1, k + 1, a6, n6, c6, _, by go_num, by go_num, rfl, Nat.le_refl _, hlt, by simp; omega, HO6, HS2, hb6⟩, by simp [intOf]; omega⟩
      · have HS2 : Hid (splitL c (chars s) = acc ++ preL (((chars s).take (k + 1)).drop g) (splitL c ((chars s).drop (k + 1)))) := Lib.hid (by
          rw [HS.out, split_miss hkl hc, preL_preL, take_nth _ k hkl, List.drop_append_of_le_length (by rw [List.length_take]; omega)])
        have hne : (nth (chars s) k == c) = false := beq_eq_false_iff_ne.2 hc
        clear hc hkl HS
        generalize nth (chars s) k = x at *
        go_wp2
        exact ⟨⟨k + 1, g, a', n', c', acc, by go_num, rfl, rfl, by omega, hlt, by omega, HO, HS2, hb⟩, by simp [intOf]; omega⟩
    · obtain rfl : k = s.size := by omega
      have HS2 : Hid ((splitL c (chars s)).map strOfNums = acc.map strOfNums ++ [s.extract g s.size]) := Lib.hid (by
        rw [HS.out, drop_end (chars s) s.size s.size (chars_len s).symm (Nat.le_refl _), extract_str s g s.size]
        simp [splitL, preL])
      clear HS
      have hlen : (acc.map strOfNums).length ≤ 1048576 := by rw [List.length_map]; omega
      go_wp2_with (at_builtin; refine wpList_app_strs rfl _ _ rfl w.heap.size _ _ rfl (HO.out.alloc _) _ _ _ [s.extract g s.size] rfl rfl (strs_new _ _ _) (by simp only [List.length_cons, List.length_nil]; omega) (by have := hb.size; simp; omega) ?_)
      intro a6 n6 c6 w6 ho6 hg6 _ _
      have hb6 : Below w.heap.size w w6 := (hb.alloc hb.size _).grown hg6 (by have := hb.size; simp; omega) (fun g hg => (World.ownsRow.lt HO.out g hg).1)
      have HO6 : Hid (OwnStrs w6 w.heap.size (.slice a6 n6 c6) ((splitL c (chars s)).map strOfNums)) := Lib.hid (by rw [HS2.out]; exact ho6)
      clear ho6 hg6 HO
      go_wp2
      go_ret
      exact ⟨_, _, _, rfl, HO6.out, hb6⟩
/-- The lines of a text whose last line is ended. -/
def linesOk (cs : List Int) : Bool := (splitL 10 cs).getLast? == some []
def linesL (cs : List Int) : List (List Int) := if linesOk cs then (splitL 10 cs).dropLast else []
end Go.Proofs.YtcgbdhbdlnimhaaGreat

/- Lines: the lines of a text, the parts of a line, by the package impl. -/
namespace Go.Proofs.YtcgbdhbdlnimhaaGreat
open Go.ChangeShapes Go.WideShapes Go.ChangeAt Go.RowKit

def strSz : Value → Nat
  | .string b => b.size
  | _ => 0
theorem lines_stop {cs : List Int} {acc : List (List Int)} {p : List Int} (h : splitL 10 cs = acc ++ [p]) : linesOk cs = (p == []) ∧ (p = [] → linesL cs = acc) := by
  unfold linesL linesOk
  rw [h]
  constructor
  · cases p <;> simp
  · rintro rfl; simp
theorem linesL_not {cs : List Int} (h : linesOk cs = false) : linesL cs = [] := by unfold linesL; rw [h]; rfl
set_option maxHeartbeats 1000000 in
theorem textLines_c (s : ByteArray) (w : World) (hs : s.size ≤ 1048576) :
    Calls Tryz.prog 69 #[.string s] w (GivesStrsB ((linesL (chars s)).map strOfNums) (linesOk (chars s)) w) := by
  have hcs : (chars s).length ≤ 1048576 := by rw [chars_len]; exact hs
  have hs0 : strOfNums ((chars s).drop 0) = s := by rw [List.drop_zero, strOf_chars]
  have Hin := Lib.hid (chars_in s)
  generalize chars s = cs at *
  subst hs0
  go_enter Tryz.func69, Tryz.ntmps69
  go_wp2
  go_loopw [0, 4] (fun t o wr => ∃ (f : Nat) (t' : ByteArray) (a' : Option Addr) (n' c' : Nat) (acc : List (List Int)), t = .string t' ∧ o = .slice a' n' c' ∧ f ≤ cs.length ∧ acc.length ≤ f ∧ Hid (chars t' = cs.drop f) ∧ Hid (OwnStrs wr w.heap.size (.slice a' n' c') (acc.map strOfNums)) ∧ Hid (splitL 10 cs = acc ++ splitL 10 (cs.drop f)) ∧ Below w.heap.size w wr) (fun t _ _ => strSz t)
  case atStart => exact ⟨0, _, _, _, _, [], rfl, rfl, Nat.zero_le _, Nat.le_refl _, Lib.hid (chars_strOf (fun x hx => Hin.out x (by simpa using hx))), Lib.hid (own_strs_empty w), Lib.hid (by simp), by go_grown⟩
  case round =>
    obtain ⟨f, t, a', n', c', acc, rfl, rfl, hf, hacc, HT, HO, HS, hb⟩ := hrel
    have htl : t.size = cs.length - f := by rw [← chars_len, HT.out, List.length_drop]
    by_cases h0 : t.size = 0
    · have he : t.toList.isEmpty = true := by rw [isEmpty_size]; exact decide_eq_true h0
      have HE := Lib.hid (lines_stop (p := []) (by rw [HS.out, List.drop_eq_nil_of_le (by omega)]; rfl))
      have HO2 : Hid (OwnStrs wr w.heap.size (.slice a' n' c') ((linesL cs).map strOfNums)) := Lib.hid (by rw [HE.out.2 rfl]; exact HO.out)
      have HB : Hid (linesOk cs = true) := Lib.hid HE.out.1
      clear HS HE HT h0 htl
      go_wp2
      go_ret2
      exact ⟨_, _, _, by rw [HB.out]; rfl, HO2.out, hb⟩
    · have he : t.toList.isEmpty = false := by rw [isEmpty_size]; exact decide_eq_false h0
      have ht20 : t.size ≤ 1048576 := by omega
      have HQ := Lib.hid (cut_c t ⟨#[10]⟩ 10 rfl wr ht20)
      have hsf := split_first 10 (cs.drop f)
      rw [← HT.out] at hsf
      by_cases hfd : findL 10 (chars t) < t.size
      · have hq := HQ.out
        unfold cutV at hq
        rw [if_pos hfd] at hq
        rw [if_pos (by rw [chars_len]; exact hfd)] at hsf
        have HS2 : Hid (splitL 10 cs = (acc ++ [(chars t).take (findL 10 (chars t))]) ++ splitL 10 (cs.drop (f + (findL 10 (chars t) + 1)))) := Lib.hid (by
          rw [HS.out, ← HT.out, hsf, HT.out, List.drop_drop]; simp)
        have HT2 : Hid (chars (strOfNums ((chars t).drop (findL 10 (chars t) + 1))) = cs.drop (f + (findL 10 (chars t) + 1))) := Lib.hid (by
          rw [chars_strOf (fun x hx => chars_in t x (List.mem_of_mem_drop hx)), HT.out, List.drop_drop])
        have Hsz : Hid ((strOfNums ((chars t).drop (findL 10 (chars t) + 1))).size < t.size) := Lib.hid (by rw [strOfNums_size, List.length_drop, chars_len]; omega)
        have hlen : (acc.map strOfNums).length ≤ 1048576 := by rw [List.length_map]; omega
        have hf2 : f + (findL 10 (chars t) + 1) ≤ cs.length := by omega
        clear hsf HS HT HQ h0
        generalize findL 10 (chars t) = j at *
        generalize (chars t).take j = p at *
        generalize strOfNums ((chars t).drop (j + 1)) = r at *
        have HQ := Lib.hid hq
        clear hq htl
        go_wp2_with fail
        refine HQ.out.mono ?_
        rintro e w1 ⟨rfl, hb1⟩
        have HO1 := Lib.hid (own_below HO.out hb1)
        have hbb := bthen hb hb1
        clear HO hb hb1
        go_wp2_with (at_builtin; refine wpList_app_strs rfl _ _ rfl w.heap.size _ _ rfl (HO1.out.alloc _) _ _ _ [strOfNums p] rfl rfl (strs_new _ _ _) (by simp only [List.length_cons, List.length_nil]; omega) (by have := hbb.size; simp; omega) ?_)
        intro a6 n6 c6 w6 ho6 hg6 _ _
        have hb6 : Below w.heap.size w w6 := (hbb.alloc hbb.size _).grown hg6 (by have := hbb.size; simp; omega) (fun g hg => (World.ownsRow.lt HO1.out g hg).1)
        have HO6 : Hid (OwnStrs w6 w.heap.size (.slice a6 n6 c6) ((acc ++ [p]).map strOfNums)) := Lib.hid (by rw [List.map_append, List.map_singleton]; exact ho6)
        clear ho6 hg6 HO1
        go_wp2
        exact ⟨⟨f + (j + 1), r, a6, n6, c6, _, rfl, rfl, hf2, by simp; omega, HT2, HO6, HS2, hb6⟩, Hsz.out⟩
      · have hq := HQ.out
        unfold cutV at hq
        rw [if_neg hfd] at hq
        rw [if_neg (by rw [chars_len]; exact hfd)] at hsf
        have HE := Lib.hid (lines_stop (p := chars t) (by rw [HS.out, ← HT.out, hsf]))
        have HB : Hid (linesOk cs = false) := Lib.hid (by
          rw [HE.out.1]
          cases h : chars t with
          | nil => have := chars_len t; rw [h] at this; simp at this; omega
          | cons a b => rfl)
        have HL : Hid (linesL cs = []) := Lib.hid (linesL_not HB.out)
        have HQ := Lib.hid hq
        clear hsf HS HT HE hq h0 hfd
        go_wp2_with fail
        refine HQ.out.mono ?_
        rintro e w1 ⟨rfl, hb1⟩
        go_wp2
        go_ret2
        exact ⟨_, _, _, by rw [HB.out]; rfl, by rw [HL.out]; exact World.ownsRow_nil _ _ _ _, bthen hb hb1⟩
end Go.Proofs.YtcgbdhbdlnimhaaGreat
