import Derived.Test.YtcgbdhbdlnimhaaGreatMg12
import Derived.Test.YtcgbdhbdlnimhaaGreatMg31
import Derived.Test.YtcgbdhbdlnimhaaGreatMg8
import Derived.Test.YtcgbdhbdlnimhaaGreatMg7
/- HexR: digits of throws, read and written, by both packages. -/
namespace Go.Proofs.YtcgbdhbdlnimhaaGreat
open Go.ChangeShapes Go.WideShapes Go.ChangeAt Go.RowKit

def hexN (c : Int) : Int := if 48 ≤ c ∧ c ≤ 57 then c - 48 else if 97 ≤ c ∧ c ≤ 102 then c - 87 else -1
theorem hexN_hexV {t : Int} (h0 : 0 ≤ t) (h1 : t ≤ 15) : hexN (hexV t) = t := by unfold hexN hexV; split <;> split <;> (try split) <;> omega
theorem hexN_none {c : Int} (h : ∀ t : Int, 0 ≤ t → t ≤ 15 → hexV t ≠ c) : hexN c = -1 := by
  unfold hexN
  split
  · have := h (c - 48) (by omega) (by omega); unfold hexV at this; rw [if_pos (by omega)] at this; omega
  · split
    · have := h (c - 87) (by omega) (by omega); unfold hexV at this; rw [if_neg (by omega)] at this; omega
    · rfl
theorem hexN_in (c : Int) : -1 ≤ hexN c ∧ hexN c ≤ 15 := by unfold hexN; split <;> (try split) <;> omega
set_option maxHeartbeats 1000000 in
theorem hexOf_c (c : Int) (w : World) : Calls Tryz.prog 118 #[.int .u8 c] w (Gives (.int .i64 (hexN c)) w) := by
  go_enter Tryz.func118, Tryz.ntmps118
  go_wp2
  go_loopw [4] (fun i wr => ∃ k : Nat, i = .int .i64 k ∧ k ≤ 16 ∧ Hid (∀ t : Int, 0 ≤ t → t < (k : Int) → hexV t ≠ c) ∧ Below w.heap.size w wr) (fun i _ => 16 - (intOf i).toNat)
  case atStart => exact ⟨0, rfl, Nat.zero_le _, Lib.hid (fun t h0 h1 => by omega), Below.refl _ _⟩
  case round =>
    obtain ⟨k, rfl, hk, HN, hb⟩ := hrel
    by_cases hlt : k < 16
    · have hix := hexIdx (k : Int) (by omega) (by omega)
      by_cases hE : hexV (k : Int) = c
      · have HR : Hid (hexN c = (k : Int)) := Lib.hid (by rw [← hE, hexN_hexV (by omega) (by omega)])
        have he : (hexV (k : Int) == c) = true := by rw [hE]; exact beq_self_eq_true _
        clear hE HN
        generalize hexV (k : Int) = y at *
        go_wp2
        go_ret
        exact Gives.int HR.out hb
      · have HN2 : Hid (∀ t : Int, 0 ≤ t → t < ((k + 1 : Nat) : Int) → hexV t ≠ c) := Lib.hid (fun t h0 h1 => by
          by_cases h : t = (k : Int)
          · rw [h]; exact hE
          · exact HN.out t h0 (by omega))
        have he : (hexV (k : Int) == c) = false := beq_eq_false_iff_ne.2 hE
        clear hE HN
        generalize hexV (k : Int) = y at *
        go_wp2
        exact ⟨⟨k + 1, by go_num, hlt, HN2, hb⟩, by simp [intOf]; omega⟩
    · obtain rfl : k = 16 := by omega
      have HR : Hid (hexN c = -1) := Lib.hid (hexN_none (fun t h0 h1 => HN.out t h0 (by omega)))
      go_wp2
      go_ret
      exact Gives.int HR.out hb
theorem l02Digit_c (c : Int) (w : World) (h0 : 0 ≤ c) (h255 : c ≤ 255) : Calls Tryz.prog 104 #[.int .u8 c] w (Gives (.int .i64 (hexN c)) w) := by
  by_cases h1 : 48 ≤ c ∧ c ≤ 57
  · obtain ⟨h2, h3⟩ := h1
    have HR : Hid (hexN c = c - 48) := Lib.hid (by unfold hexN; rw [if_pos ⟨h2, h3⟩])
    have hw : IntKind.u8.wrap (c - 48) = c - 48 := IntWalk.u8_in _ (by omega)
    have hw2 : IntKind.i64.wrap (c - 48) = c - 48 := IntWalk.i64_in _ (by omega)
    go_enter Tryz.func104, Tryz.ntmps104
    go_wp2
    go_ret
    exact Gives.int HR.out (by go_grown)
  · by_cases h4 : 97 ≤ c ∧ c ≤ 102
    · obtain ⟨h5, h6⟩ := h4
      have HR : Hid (hexN c = c - 97 + 10) := Lib.hid (by unfold hexN; rw [if_neg h1, if_pos ⟨h5, h6⟩]; omega)
      have h7 : ¬ c ≤ 57 := by omega
      have h8 : 48 ≤ c := by omega
      have hw : IntKind.u8.wrap (c - 97) = c - 97 := IntWalk.u8_in _ (by omega)
      have hw2 : IntKind.i64.wrap (c - 97) = c - 97 := IntWalk.i64_in _ (by omega)
      have hw3 : IntKind.i64.wrap (c - 97 + 10) = c - 97 + 10 := IntWalk.i64_in _ (by omega)
      clear h1
      go_enter Tryz.func104, Tryz.ntmps104
      go_wp2
      go_ret
      exact Gives.int HR.out (by go_grown)
    · have HR : Hid (hexN c = -1) := Lib.hid (by unfold hexN; rw [if_neg h1, if_neg h4])
      by_cases h2 : 48 ≤ c
      · have h3 : ¬ c ≤ 57 := fun h => h1 ⟨h2, h⟩
        by_cases h5 : 97 ≤ c
        · have h6 : ¬ c ≤ 102 := fun h => h4 ⟨h5, h⟩
          clear h1 h4
          go_enter Tryz.func104, Tryz.ntmps104
          go_wp2
          go_ret
          exact Gives.int HR.out (by go_grown)
        · clear h1 h4
          go_enter Tryz.func104, Tryz.ntmps104
          go_wp2
          go_ret
          exact Gives.int HR.out (by go_grown)
      · have h5 : ¬ 97 ≤ c := by omega
        clear h1 h4
        go_enter Tryz.func104, Tryz.ntmps104
        go_wp2
        go_ret
        exact Gives.int HR.out (by go_grown)
def digsL (s : ByteArray) : List Int := (chars s).map hexN
theorem digs_len (s : ByteArray) : (digsL s).length = s.size := by unfold digsL; rw [List.length_map, chars_len]
theorem digs_step (s : ByteArray) (k : Nat) (hk : k < s.size) : (digsL s).take (k + 1) = (digsL s).take k ++ [hexN (nth (chars s) k)] := by
  rw [take_nth _ k (by rw [digs_len]; exact hk)]
  congr 2
  unfold digsL
  rw [nth_eq _ k (by rw [List.length_map, chars_len]; exact hk), nth_eq _ k (by rw [chars_len]; exact hk), List.getElem_map]
set_option maxHeartbeats 1000000 in
theorem l02Read_c (s : ByteArray) (w : World) (hs : s.size ≤ 1048576) : Calls Tryz.prog 77 #[.string s] w (GivesInts (digsL s) w) := by
  go_enter Tryz.func77, Tryz.ntmps77
  go_wp2
  go_loopw [3, 4] (fun o i wr => ∃ (k : Nat) (a' : Option Addr) (n' c' : Nat), i = .int .i64 k ∧ k ≤ s.size ∧ o = .slice a' n' c' ∧ Hid (OwnInts wr w.heap.size (.slice a' n' c') ((digsL s).take k)) ∧ Below w.heap.size w wr) (fun _ i _ => s.size - (intOf i).toNat)
  case atStart => exact ⟨0, _, _, _, rfl, Nat.zero_le _, rfl, Lib.hid (own_empty w), by go_grown⟩
  case round =>
    obtain ⟨k, a', n', c', rfl, hk, rfl, HO, hb⟩ := hrel
    by_cases hlt : k < s.size
    · have hcn := (chars_nth s k hlt).symm
      have hbd := chars_bd s k
      have HL := Lib.hid (digs_step s k hlt)
      have hlen : ((digsL s).take k).length ≤ 1048576 := by rw [List.length_take, digs_len]; omega
      generalize nth (chars s) k = x at *
      have HQ := Lib.hid (fun W => l02Digit_c x W hbd.1 hbd.2)
      generalize hexN x = y at *
      go_wp2_with fail
      refine (HQ.out _).mono ?_
      rintro e w1 ⟨rfl, hb1⟩
      have HO1 := Lib.hid (own_below HO.out hb1)
      have hbb := bthen hb hb1
      clear HO hb hb1
      go_wp2_with (at_builtin; refine wpList_app_ints rfl _ _ rfl w.heap.size _ _ rfl (HO1.out.alloc _) _ _ _ [y] rfl rfl (ints_new _ _ _) (by simp only [List.length_cons, List.length_nil]; omega) (by have := hbb.size; simp; omega) ?_)
      intro a6 n6 c6 w6 ho6 hg6 _ _
      have hb6 : Below w.heap.size w w6 := (hbb.alloc hbb.size _).grown hg6 (by have := hbb.size; simp; omega) (fun g hg => (World.ownsRow.lt HO1.out g hg).1)
      have HO6 : Hid (OwnInts w6 w.heap.size (.slice a6 n6 c6) ((digsL s).take (k + 1))) := Lib.hid (by rw [HL.out]; exact ho6)
      clear ho6 hg6 HO1
      go_wp2
      exact ⟨⟨k + 1, a6, n6, c6, by go_num, hlt, rfl, HO6, hb6⟩, by simp [intOf]; omega⟩
    · obtain rfl : k = s.size := by omega
      have HR : Hid (OwnInts wr w.heap.size (.slice a' n' c') (digsL s)) := Lib.hid (by
        have h := HO.out
        rw [List.take_of_length_le (by rw [digs_len]; exact Nat.le_refl _)] at h
        exact h)
      clear HO
      go_wp2
      go_ret
      exact ⟨_, _, _, rfl, HR.out, hb⟩
end Go.Proofs.YtcgbdhbdlnimhaaGreat

/- PatR: patterns read out of texts by the package impl, written by the package spec. -/
namespace Go.Proofs.YtcgbdhbdlnimhaaGreat
open Go.ChangeShapes Go.WideShapes Go.ChangeAt Go.RowKit

def GivesIntsB (l : List Int) (b : Bool) (w : World) (e : Ending) (w' : World) : Prop := ∃ a n c, e = .returned (.tuple #[.slice a n c, .bool b]) ∧ OwnInts w' w.heap.size (.slice a n c) l ∧ Below w.heap.size w w'
theorem GivesIntsB.none {l : List Int} {b c : Bool} {w w' : World} (h : l = []) (hc : b = c) (hb : Below w.heap.size w w') : GivesIntsB l b w (.returned (.tuple #[.slice Option.none 0 0, .bool c])) w' :=
  ⟨Option.none, 0, 0, by rw [hc], by rw [h]; exact World.ownsRow_nil _ _ _ _, hb⟩
theorem GivesIntsB.mk {l : List Int} {b d : Bool} {a : Option Addr} {n c : Nat} {w w' : World} (hc : b = d) (ho : OwnInts w' w.heap.size (.slice a n c) l) (hb : Below w.heap.size w w') : GivesIntsB l b w (.returned (.tuple #[.slice a n c, .bool d])) w' :=
  ⟨a, n, c, by rw [hc], ho, hb⟩
theorem pmono {w : World} {base base' : Nat} {e : TypeId} {size : Nat} {v : Value} {n : Nat} {xs : List Value} (h : w.ownsRow base' e size v n xs) (hb : base ≤ base') : w.ownsRow base e size v n xs := by
  obtain ⟨h1, h2⟩ := h
  refine ⟨h1, ?_⟩
  rcases h2 with h2 | ⟨g, cap, cur, hv, hg, r⟩
  · exact .inl h2
  · exact .inr ⟨g, cap, cur, hv, Nat.le_trans hb hg, r⟩
def thrS (s : ByteArray) : List Int := if 12 < s.size then [] else digsL s
theorem thrS_ok (s : ByteArray) : okPat (thrS s) = okPat (digsL s) := by
  unfold thrS
  split
  · rename_i h
    have h1 : okPat [] = false := rfl
    rw [h1]
    cases h2 : okPat (digsL s)
    · rfl
    · have := (throwsB_nth (okPat_throws h2)).2.2
      rw [digs_len] at this; omega
  · rfl
theorem thrS_len (s : ByteArray) : (thrS s).length ≤ 12 := by
  unfold thrS
  split
  · exact Nat.zero_le _
  · rw [digs_len]; omega
def patR (s : ByteArray) : List Int := if okPat (digsL s) then digsL s else []
theorem patR_eq {s : ByteArray} (h : okPat (digsL s) = true) : patR s = thrS s := by
  unfold patR thrS
  rw [if_pos h, if_neg]
  have := (throwsB_nth (okPat_throws h)).2.2
  rw [digs_len] at this; omega
set_option maxHeartbeats 1000000 in
theorem readThrows_c (s : ByteArray) (w : World) (hs : s.size ≤ 1048576) : Calls Tryz.prog 102 #[.string s] w fun e w' => ∃ b, GivesIntsB (thrS s) b w e w' := by
  by_cases h12 : 12 < s.size
  · have HR : Hid (thrS s = []) := Lib.hid (by unfold thrS; rw [if_pos h12])
    have hd : decide ((12 : Int) < (s.size : Int)) = true := decide_eq_true (by omega)
    go_enter Tryz.func102, Tryz.ntmps102
    go_wp2
    go_ret2
    exact ⟨false, GivesIntsB.none HR.out rfl (Below.refl _ _)⟩
  · have HR : Hid (thrS s = digsL s) := Lib.hid (by unfold thrS; rw [if_neg h12])
    have hd : decide ((12 : Int) < (s.size : Int)) = false := decide_eq_false (by omega)
    clear h12
    go_enter Tryz.func102, Tryz.ntmps102
    go_wp2
    go_loopw [4, 12] (fun o i wr => ∃ (k : Nat) (a' : Option Addr) (n' c' : Nat), i = .int .i64 k ∧ k ≤ s.size ∧ o = .slice a' n' c' ∧ Hid (OwnInts wr w.heap.size (.slice a' n' c') ((digsL s).take k)) ∧ Below w.heap.size w wr) (fun _ i _ => s.size - (intOf i).toNat)
    case atStart => exact ⟨0, _, _, _, rfl, Nat.zero_le _, rfl, Lib.hid (own_empty w), by go_grown⟩
    case round =>
      obtain ⟨k, a', n', c', rfl, hk, rfl, HO, hb⟩ := hrel
      by_cases hlt : k < s.size
      · have hcn := (chars_nth s k hlt).symm
        have HL := Lib.hid (digs_step s k hlt)
        have hlen : ((digsL s).take k).length ≤ 1048576 := by rw [List.length_take, digs_len]; omega
        generalize nth (chars s) k = x at *
        have HQ := Lib.hid (fun W => hexOf_c x W)
        generalize hexN x = y at *
        go_wp2_with fail
        refine (HQ.out _).mono ?_
        rintro e w1 ⟨rfl, hb1⟩
        have HO1 := Lib.hid (own_below HO.out hb1)
        have hbb := bthen hb hb1
        clear HO hb hb1
        go_wp2_with (at_builtin; refine wpList_app_ints rfl _ _ rfl w.heap.size _ _ rfl (HO1.out.alloc _) _ _ _ [y] rfl rfl (ints_new _ _ _) (by simp only [List.length_cons, List.length_nil]; omega) (by have := hbb.size; simp; omega) ?_)
        intro a6 n6 c6 w6 ho6 hg6 _ _
        have hb6 : Below w.heap.size w w6 := (hbb.alloc hbb.size _).grown hg6 (by have := hbb.size; simp; omega) (fun g hg => (World.ownsRow.lt HO1.out g hg).1)
        have HO6 : Hid (OwnInts w6 w.heap.size (.slice a6 n6 c6) ((digsL s).take (k + 1))) := Lib.hid (by rw [HL.out]; exact ho6)
        clear ho6 hg6 HO1
        go_wp2
        exact ⟨⟨k + 1, a6, n6, c6, by go_num, hlt, rfl, HO6, hb6⟩, by simp [intOf]; omega⟩
      · obtain rfl : k = s.size := by omega
        have HO2 : Hid (OwnInts wr w.heap.size (.slice a' n' c') (digsL s)) := Lib.hid (by
          have h := HO.out
          rw [List.take_of_length_le (by rw [digs_len]; exact Nat.le_refl _)] at h
          exact h)
        have HQ := Lib.hid (areThrows_c (.slice a' n' c') (digsL s) wr (OwnInts.at HO2.out))
        clear HO
        go_wp2_with fail
        refine HQ.out.mono ?_
        rintro e w1 ⟨rfl, hb1⟩
        go_wp2
        go_ret2
        exact ⟨_, GivesIntsB.mk rfl (by rw [HR.out]; exact own_below HO2.out hb1) (bthen hb hb1)⟩
theorem readPattern_c (s : ByteArray) (w : World) (hs : s.size ≤ 1048576) : Calls Tryz.prog 71 #[.string s] w (GivesIntsB (patR s) (okPat (digsL s)) w) := by
  have HQ := Lib.hid (readThrows_c s w hs)
  have HE := Lib.hid (thrS_ok s)
  have HP : Hid (okPat (digsL s) = true → patR s = thrS s) := Lib.hid (fun h => patR_eq h)
  have HN : Hid (okPat (digsL s) = false → patR s = []) := Lib.hid (fun h => by unfold patR; rw [h]; rfl)
  generalize okPat (digsL s) = ok at *
  generalize thrS s = t at *
  go_enter Tryz.func71, Tryz.ntmps71
  go_wp2_with fail
  refine HQ.out.mono ?_
  rintro e w1 ⟨b, a1, n1, c1, rfl, ho1, hb1⟩
  have HV := Lib.hid (validPattern_c (.slice a1 n1 c1) t w1 (OwnInts.at ho1))
  have HO1 := Lib.hid ho1
  clear ho1 HQ
  rw [HE.out] at HV
  go_wp2_with fail
  refine HV.out.mono ?_
  rintro e w2 ⟨rfl, hb2⟩
  cases ok
  · have HR := Lib.hid (HN.out rfl)
    clear HP HN
    go_wp2
    go_ret2
    exact GivesIntsB.none HR.out rfl (bthen hb1 hb2)
  · have HR := Lib.hid (HP.out rfl)
    clear HP HN
    go_wp2
    go_ret2
    exact GivesIntsB.mk rfl (by rw [HR.out]; exact own_below HO1.out hb2) (bthen hb1 hb2)
theorem hexCut (t : Nat) (ht : t ≤ 15) : (⟨#[48, 49, 50, 51, 52, 53, 54, 55, 56, 57, 97, 98, 99, 100, 101, 102]⟩ : ByteArray).extract t (t + 1) = strOfNums [hexV t] := by
  have h : t = 0 ∨ t = 1 ∨ t = 2 ∨ t = 3 ∨ t = 4 ∨ t = 5 ∨ t = 6 ∨ t = 7 ∨ t = 8 ∨ t = 9 ∨ t = 10 ∨ t = 11 ∨ t = 12 ∨ t = 13 ∨ t = 14 ∨ t = 15 := by omega
  rcases h with rfl | rfl | rfl | rfl | rfl | rfl | rfl | rfl | rfl | rfl | rfl | rfl | rfl | rfl | rfl | rfl <;> rfl
set_option maxHeartbeats 1000000 in
theorem l02Text_c (v : Value) (l : List Int) (w : World) (hv : IntsAt w v l) (h15 : ∀ x ∈ l, 0 ≤ x ∧ x ≤ 15) (hl : l.length ≤ 1048576) : Calls Tryz.prog 103 #[v] w (Gives (.string (strOfNums (l.map hexV))) w) := by
  obtain ⟨a, n, cap, rfl, hn, -, -, hc⟩ := hv
  have Hc := Lib.hid hc; clear hc
  have hn20 : n ≤ 1048576 := by omega
  have Hn := Lib.hid hn; clear hn hl
  have H15 := Lib.hid h15; clear h15
  go_enter Tryz.func103, Tryz.ntmps103
  go_wp2
  go_loopw [4, 5] (fun s i wr => ∃ (k : Nat) (t : ByteArray), i = .int .i64 k ∧ k ≤ n ∧ s = .string t ∧ Hid (t = strOfNums ((l.take k).map hexV)) ∧ Below w.heap.size w wr) (fun _ i _ => n - (intOf i).toNat)
  case atStart => exact ⟨0, _, rfl, Nat.zero_le _, rfl, Lib.hid rfl, Below.refl _ _⟩
  case round =>
    obtain ⟨k, t, rfl, hk, rfl, HT, hb⟩ := hrel
    by_cases hlt : k < n
    · have hkl : k < l.length := by rw [← Hn.out]; exact hlt
      obtain ⟨b, o, rfl, hbs, c0⟩ := (Hc.out.below hb) k hkl
      obtain ⟨hx0, hx15⟩ := H15.out _ (mem_nth hkl)
      obtain ⟨x, hx⟩ : ∃ x : Nat, nth l k = (x : Int) := ⟨(nth l k).toNat, by omega⟩
      have HT2 : Hid (t ++ strOfNums [hexV x] = strOfNums ((l.take (k + 1)).map hexV)) := Lib.hid (by rw [HT.out, ← strOf_append, take_nth l k hkl, List.map_append, hx]; rfl)
      rw [hx] at c0 hx0 hx15
      have HC := Lib.hid (hexCut x (by omega))
      have hx1 : x + 1 ≤ 16 := by omega
      have hw1 : IntKind.i64.wrap ((x : Int) + 1) = (x : Int) + 1 := IntWalk.i64_in _ (by omega)
      clear hx hkl
      have hsz : (⟨#[48, 49, 50, 51, 52, 53, 54, 55, 56, 57, 97, 98, 99, 100, 101, 102]⟩ : ByteArray).size = 16 := rfl
      generalize (⟨#[48, 49, 50, 51, 52, 53, 54, 55, 56, 57, 97, 98, 99, 100, 101, 102]⟩ : ByteArray) = D at *
      have hxD : x + 1 ≤ D.size := by omega
      have hts : t.size ≤ 1048576 := by rw [HT.out, strOfNums_size, List.length_map, List.length_take]; omega
      go_wp2
      go_quiet (fail)
      go_wp2
      exact ⟨⟨k + 1, _, by go_num, hlt, rfl, Lib.hid (by rw [← HT2.out, ← HC.out]), below_drewN hb _⟩, by simp [intOf]; omega⟩
    · obtain rfl : k = n := by omega
      have HR : Hid (strOfNums (l.map hexV) = t) := Lib.hid (by rw [HT.out, List.take_of_length_le (by rw [Hn.out]; exact Nat.le_refl _)])
      go_wp2
      go_ret
      exact Gives.mk (by rw [HR.out]; rfl) hb
end Go.Proofs.YtcgbdhbdlnimhaaGreat
