import Derived.Test.YtclffohjpbmnbaaGreatDoorMg50
import Derived.Test.YtclffohjpbmnbaaGreatDoorMg36
import Derived.Test.YtclffohjpbmnbaaGreatDoorMg33
import Derived.Test.YtclffohjpbmnbaaGreatDoorMg20
import Derived.Test.YtclffohjpbmnbaaGreatDoorMg19
/- ReadQ: queries read out of their text, by both packages. -/
namespace Go.Proofs.YtclffohjpbmnbaaGreatDoor
open Go.ChangeShapes Go.WideShapes Go.ChangeAt Go.RowKit

theorem rown_off {w : World} {base : Nat} {e : TypeId} {size : Nat} {v : Value} {n : Nat} {xs : List Value} (h : w.ownsRow base e size v n xs) (p : Addr) (hp : v.ownBlock ≠ some p.block) (u : Value) : (w.setCell p u).ownsRow base e size v n xs :=
  own_turned (lo := p.block) (hi := p.block + 1) h (Turned.set (Turned.refl _) (Nat.le_refl _) (Nat.lt_succ_self _) u) (fun g hg => by
    have : g ≠ p.block := fun e => hp (by rw [hg, e])
    omega)
/-- A query in a box of the call's own, its two lists too. -/
structure QS (w : World) (base b : Nat) (q : Query) (y z : Value) : Prop where
  box : BoxIs w b [.int .i64 q.period, .int .i64 q.props, .int .i64 q.high, y, z, .bool q.canonical]
  ys : ∃ a n c, y = .slice a n c
  zs : ∃ a n c, z = .slice a n c
  oy : OwnInts w base y q.need
  oz : OwnInts w base z q.avoid
  ny : y.ownBlock ≠ some b
  nz : z.ownBlock ≠ some b
  dis : ∀ g, y.ownBlock = some g → z.ownBlock ≠ some g
section
variable {w w' : World} {base b : Nat} {q : Query} {y z : Value}
theorem QS.below (h : QS w base b q y z) (hb : Below w.heap.size w w') : QS w' base b q y z :=
  ⟨h.box.below hb, h.ys, h.zs, own_below h.oy hb, own_below h.oz hb, h.ny, h.nz, h.dis⟩
theorem QS.setC (h : QS w base b q y z) : QS (w.setCell ⟨b, 5, none⟩ (.bool true)) base b ⟨q.period, q.props, q.high, q.need, q.avoid, true⟩ y z :=
  ⟨h.box.set 5 (by simp) _, h.ys, h.zs, rown_off h.oy _ h.ny _, rown_off h.oz _ h.nz _, h.ny, h.nz, h.dis⟩
theorem QS.setN {a : Option Addr} {n c : Nat} {l : List Int} (h : QS w base b q y z) (hb : Below w.heap.size w w') (ho : OwnInts w' w.heap.size (.slice a n c) l) (hbase : base ≤ w.heap.size) :
    QS (w'.setCell ⟨b, 3, none⟩ (.slice a n c)) base b ⟨q.period, q.props, q.high, l, q.avoid, q.canonical⟩ (.slice a n c) z := by
  have h2 := h.below hb
  have hbw := h.box.1
  have hn : ∀ g, (Value.slice a n c).ownBlock = some g → w.heap.size ≤ g := fun g hg => (World.ownsRow.lt ho g hg).1
  have hz : ∀ g, z.ownBlock = some g → g < w.heap.size := fun g hg => (World.ownsRow.lt h.oz g hg).2
  have hnb : (Value.slice a n c).ownBlock ≠ some b := fun e => by have := hn b e; omega
  exact ⟨h2.box.set 3 (by simp) _, ⟨a, n, c, rfl⟩, h.zs, rown_off (own_mono ho hbase) _ hnb _, rown_off h2.oz _ h.nz _, hnb, h.nz, fun g hg e => by have := hn g hg; have := hz g e; omega⟩
theorem QS.setA {a : Option Addr} {n c : Nat} {l : List Int} (h : QS w base b q y z) (hb : Below w.heap.size w w') (ho : OwnInts w' w.heap.size (.slice a n c) l) (hbase : base ≤ w.heap.size) :
    QS (w'.setCell ⟨b, 4, none⟩ (.slice a n c)) base b ⟨q.period, q.props, q.high, q.need, l, q.canonical⟩ y (.slice a n c) := by
  have h2 := h.below hb
  have hbw := h.box.1
  have hn : ∀ g, (Value.slice a n c).ownBlock = some g → w.heap.size ≤ g := fun g hg => (World.ownsRow.lt ho g hg).1
  have hy : ∀ g, y.ownBlock = some g → g < w.heap.size := fun g hg => (World.ownsRow.lt h.oy g hg).2
  have hnb : (Value.slice a n c).ownBlock ≠ some b := fun e => by have := hn b e; omega
  exact ⟨h2.box.set 4 (by simp) _, h.ys, ⟨a, n, c, rfl⟩, rown_off h2.oy _ h.ny _, rown_off (own_mono ho hbase) _ hnb _, h.ny, hnb, fun g hg e => by have := hn g e; have := hy g hg; omega⟩
theorem QS.at (h : QS w base b q y z) : QAt w q y z := ⟨OwnInts.at h.oy, OwnInts.at h.oz⟩
end
def GivesQB (q : Query) (ok : Bool) (w : World) (e : Ending) (w' : World) : Prop :=
  ∃ a1 n1 c1 a2 n2 c2, e = .returned (.tuple #[.agg #[.int .i64 q.period, .int .i64 q.props, .int .i64 q.high, .slice a1 n1 c1, .slice a2 n2 c2, .bool q.canonical], .bool ok]) ∧
    OwnInts w' w.heap.size (.slice a1 n1 c1) q.need ∧ OwnInts w' w.heap.size (.slice a2 n2 c2) q.avoid ∧ (∀ g, (Value.slice a1 n1 c1).ownBlock = some g → (Value.slice a2 n2 c2).ownBlock ≠ some g) ∧ Below w.heap.size w w'
theorem GivesQB.none {q : Query} {ok : Bool} {w w' : World} (h : q = qZero) (hc : ok = false) (hb : Below w.heap.size w w') :
    GivesQB q ok w (.returned (.tuple #[.agg #[.int .i64 0, .int .i64 0, .int .i64 0, .slice Option.none 0 0, .slice Option.none 0 0, .bool false], .bool false])) w' := by
  subst h; subst hc
  exact ⟨Option.none, 0, 0, Option.none, 0, 0, rfl, World.ownsRow_nil _ _ _ _, World.ownsRow_nil _ _ _ _, fun _ hg => (by simp [Value.ownBlock] at hg), hb⟩
def canonBA : ByteArray := ⟨#[99, 97, 110, 111, 110, 105, 99, 97, 108]⟩
theorem canon_str {x : List Int} (h : ∀ c ∈ x, 0 ≤ c ∧ c ≤ 255) : ((strOfNums x).toList == (⟨#[99, 97, 110, 111, 110, 105, 99, 97, 108]⟩ : ByteArray).toList) = decide (x = canonC) := by
  rw [beq_bytes]
  refine decide_eq_decide.2 ⟨fun e => ?_, fun e => by rw [e]; rfl⟩
  have := congrArg chars e
  rw [chars_strOf h] at this
  exact this
theorem qStep_c {q : Query} {x : List Int} (h : x = canonC) : qStep q x = ⟨q.period, q.props, q.high, q.need, q.avoid, true⟩ := by unfold qStep; rw [if_pos h]
theorem qStep_n {q : Query} {x : List Int} (h : x ≠ canonC) (h1 : x ≠ []) (h2 : nth x 0 = 43) : qStep q x = ⟨q.period, q.props, q.high, (x.drop 1).map hexN, q.avoid, q.canonical⟩ := by unfold qStep; rw [if_neg h, if_pos ⟨h1, h2⟩]
theorem qStep_a {q : Query} {x : List Int} (h : x ≠ canonC) (h1 : x ≠ []) (h2 : nth x 0 = 45) : qStep q x = ⟨q.period, q.props, q.high, q.need, (x.drop 1).map hexN, q.canonical⟩ := by
  unfold qStep; rw [if_neg h, if_neg (by rw [h2]; simp), if_pos ⟨h1, h2⟩]
theorem qStep_o {q : Query} {x : List Int} (h : x ≠ canonC) (h1 : x = [] ∨ (nth x 0 ≠ 43 ∧ nth x 0 ≠ 45)) : qStep q x = q := by
  unfold qStep; rw [if_neg h]
  rcases h1 with rfl | ⟨h1, h2⟩
  · rw [if_neg (by simp), if_neg (by simp)]
  · rw [if_neg (fun h => h1 h.2), if_neg (fun h => h2 h.2)]
theorem tail_digs (x : List Int) (h : ∀ c ∈ x, 0 ≤ c ∧ c ≤ 255) : digsL ((strOfNums x).extract 1 (strOfNums x).size) = (x.drop 1).map hexN := by
  unfold digsL
  rw [chars_extract, chars_strOf h, List.take_of_length_le (by rw [strOfNums_size]; exact Nat.le_refl _)]
set_option maxRecDepth 100000 in
set_option maxHeartbeats 4000000 in
theorem iReadQuery_c (s : ByteArray) (w : World) (hs : s.size ≤ 1048576) (ht : TabW w) : Calls Tryz.prog 13 #[.string s] w (GivesQB (rqQ (chars s)) (rqOk (chars s)) w) := by
  have HQ := Lib.hid (fun W => parts_c s W hs)
  have HTab := Lib.hid ht; clear ht
  have hcl : (chars s).length ≤ 1048576 := by rw [chars_len]; exact hs
  have HSz : Hid (s.size = (chars s).length) := Lib.hid (chars_len s).symm
  have Hin := Lib.hid (chars_in s)
  have HFew := Lib.hid (fun h => rqOk_few (cs := chars s) h)
  have HWide := Lib.hid (fun h => rqOk_wide (cs := chars s) h)
  have HEq := Lib.hid (fun h h2 => rqOk_eq (cs := chars s) h h2)
  have HYes := Lib.hid (fun h => rqQ_yes (cs := chars s) h)
  have Hsp : Hid (∀ x ∈ splitL 32 (chars s), x.length ≤ 1048576 ∧ ∀ c ∈ x, 0 ≤ c ∧ c ≤ 255) := Lib.hid (fun x hx => ⟨Nat.le_trans (split_len1 32 _ x hx) hcl, fun c hc => Hin.out c (split_mem 32 _ x hx c hc)⟩)
  generalize hcs : chars s = cs at *
  have HCs := Lib.hid hcs
  clear hcs hcl
  go_enter Tryz.func13, Tryz.ntmps13
  go_wp2_with fail
  have hb0 : Below w.heap.size w (w.alloc (.cells #[.int .i64 0, .int .i64 0, .int .i64 0, .slice none 0 0, .slice none 0 0, .bool false] 26)) := by go_grown
  have HB0 := Lib.hid (BoxIs.new w [.int .i64 0, .int .i64 0, .int .i64 0, .slice none 0 0, .slice none 0 0, .bool false] 26)
  generalize w.alloc (.cells #[.int .i64 0, .int .i64 0, .int .i64 0, .slice none 0 0, .slice none 0 0, .bool false] 26) = w0 at *
  refine (HQ.out _).mono ?_
  rintro e w1 ⟨a1, n1, c1, rfl, ho1, hb1⟩
  obtain ⟨ax, nx, cx, he, hn1, hnc, -, hS⟩ := OwnStrs.at ho1
  cases he
  rw [List.length_map] at hn1
  have HS := Lib.hid hS
  have hb := bthen hb0 hb1
  have HB1 := Lib.hid (HB0.out.below hb1)
  have hsw0 := HB0.out.1
  have hsw1 := HB1.out.1
  obtain ⟨e1, f1⟩ := HB1.out.cells
  clear ho1 hS HQ hb0 hb1 HB0
  by_cases hlo : n1 < 3
  · have hlo' : (n1 : Int) < 3 := by omega
    have HX := Lib.hid (HFew.out (by rw [← hn1]; exact hlo))
    clear hn1
    go_wp2
    refine bodyPost_ret (v := .tuple #[.agg #[.int .i64 0, .int .i64 0, .int .i64 0, .slice none 0 0, .slice none 0 0, .bool false], .bool false]) (by simp [results, Tryz.results13, go_sem, e1]) rfl ?_
    refine GivesQB.none (rqQ_no HX.out) HX.out ?_
    repeat (refine Below.setCell ?_ (by simp only []; omega) _)
    exact hb
  have hlo' : ¬ (n1 : Int) < 3 := by omega
  have hm : ∀ i, i < n1 → (nth (splitL 32 cs) i).length ≤ 1048576 ∧ ∀ c ∈ nth (splitL 32 cs) i, 0 ≤ c ∧ c ≤ 255 := fun i hi => Hsp.out _ (mem_nth (by rw [← hn1]; exact hi))
  have Hm := Lib.hid hm
  obtain ⟨b, o, rfl, hbs, d0⟩ := StrsC.at1 HS.out 0 (by omega)
  obtain ⟨b', o', he', -, d1⟩ := StrsC.at1 HS.out 1 (by omega)
  cases he'
  obtain ⟨b', o', he', -, d2⟩ := StrsC.at1 HS.out 2 (by omega)
  cases he'
  have hz2 : (strOfNums (nth (splitL 32 cs) 2)).size = (nth (splitL 32 cs) 2).length := strOfNums_size _
  by_cases hw2 : ¬ (nth (splitL 32 cs) 2).length = 1
  · have HX := Lib.hid (HWide.out hw2)
    have hne : ((((strOfNums (nth (splitL 32 cs) 2)).size : Nat) : Int) != 1) = true := bne_iff_ne.2 (by omega)
    have hlt3 : decide ((n1 : Int) < 3) = false := decide_eq_false hlo'
    clear hz2 hw2 hm hn1
    generalize strOfNums (nth (splitL 32 cs) 2) = t2 at *
    go_wp2
    refine bodyPost_ret (v := .tuple #[.agg #[.int .i64 0, .int .i64 0, .int .i64 0, .slice none 0 0, .slice none 0 0, .bool false], .bool false]) (by simp [results, Tryz.results13, go_sem, e1]) rfl ?_
    refine GivesQB.none (rqQ_no HX.out) HX.out ?_
    repeat (refine Below.setCell ?_ (by simp only []; omega) _)
    exact hb
  replace hw2 := Classical.not_not.1 hw2
  have hlt3 : decide ((n1 : Int) < 3) = false := decide_eq_false hlo'
  have hne : ((((strOfNums (nth (splitL 32 cs) 2)).size : Nat) : Int) != 1) = false := by rw [hz2, hw2]; rfl
  have hz0 : (strOfNums (nth (splitL 32 cs) 0)).size ≤ 1048576 := by rw [strOfNums_size]; exact (hm 0 (by omega)).1
  have hz1 : (strOfNums (nth (splitL 32 cs) 1)).size ≤ 1048576 := by rw [strOfNums_size]; exact (hm 1 (by omega)).1
  have HN0 := Lib.hid (fun W x => readDecimal_c (strOfNums (nth (splitL 32 cs) 0)) W hz0 x)
  have HN1 := Lib.hid (fun W x => readDecimal_c (strOfNums (nth (splitL 32 cs) 1)) W hz1 x)
  rw [chars_strOf (hm 0 (by omega)).2] at HN0
  rw [chars_strOf (hm 1 (by omega)).2] at HN1
  have hlt2 : 0 < (strOfNums (nth (splitL 32 cs) 2)).size := by omega
  have hcn := (chars_nth (strOfNums (nth (splitL 32 cs) 2)) 0 hlt2).symm
  rw [chars_strOf (hm 2 (by omega)).2] at hcn
  have hcb : 0 ≤ nth (nth (splitL 32 cs) 2) 0 ∧ nth (nth (splitL 32 cs) 2) 0 ≤ 255 := (hm 2 (by omega)).2 _ (mem_nth (by omega))
  have HHx := Lib.hid (fun W => hexOf_c (nth (nth (splitL 32 cs) 2) 0) W)
  have hsz2 : (strOfNums (nth (splitL 32 cs) 2)).size = 1 := by omega
  have HRq : Hid (rqOk cs = (numOk (nth (splitL 32 cs) 0) && (numOk (nth (splitL 32 cs) 1) && (okQueryB (qRead (splitL 32 cs)) && decide (qCh (qRead (splitL 32 cs)) = cs))))) := Lib.hid (HEq.out (by omega) hw2)
  have HRd : Hid (qRead (splitL 32 cs) = ((splitL 32 cs).drop 3).foldl qStep ⟨numN (nth (splitL 32 cs) 0), numN (nth (splitL 32 cs) 1), hexN (nth (nth (splitL 32 cs) 2) 0), [], [], false⟩) := Lib.hid rfl
  have Hn1 := Lib.hid hn1
  have hn20 : n1 ≤ s.size + 1 := by rw [hn1, HSz.out, qsplit_count]; have := List.count_le_length (a := (32 : Int)) (l := cs); omega
  rw [Nat.add_zero] at d0
  clear hm hz0 hz1 hz2 hw2 HEq HWide HFew hn1
  generalize qRead (splitL 32 cs) = qr at *
  generalize numOk (nth (splitL 32 cs) 0) = k0 at *
  generalize numOk (nth (splitL 32 cs) 1) = k1 at *
  generalize numN (nth (splitL 32 cs) 0) = v0 at *
  generalize numN (nth (splitL 32 cs) 1) = v1 at *
  generalize nth (nth (splitL 32 cs) 2) 0 = ch at *
  generalize strOfNums (nth (splitL 32 cs) 0) = t0 at *
  generalize strOfNums (nth (splitL 32 cs) 1) = t1 at *
  generalize strOfNums (nth (splitL 32 cs) 2) = t2 at *
  generalize hexN ch = hv at *
  generalize splitL 32 cs = L at *
  go_wp2_with fail
  refine (HN0.out _ (HTab.out.below hb)).mono ?_
  rintro e w2 ⟨rfl, hb2⟩
  have hbb := bthen hb hb2
  replace d1 := cell_then hbs d1 hb2
  replace d2 := cell_then hbs d2 hb2
  go_wp2_with fail
  refine (HN1.out _ (HTab.out.below hbb)).mono ?_
  rintro e w3 ⟨rfl, hb3⟩
  have hbc := bthen hbb hb3
  have hbs2 := Nat.lt_of_lt_of_le hbs hb2.size
  replace d2 := cell_then hbs2 d2 hb3
  go_wp2_with fail
  refine (HHx.out _).mono ?_
  rintro e w4 ⟨rfl, hb4⟩
  have hbd := bthen hbc hb4
  have HB4 := Lib.hid (((HB1.out.below hb2).below hb3).below hb4)
  have HS4 := Lib.hid (((HS.out.below hb2).below hb3).below hb4)
  have hbs4 : b < w4.heap.size := by have := hb2.size; have := hb3.size; have := hb4.size; omega
  have hw4 : w.heap.size < w4.heap.size := HB4.out.1
  clear d0 d1 d2 e1 f1 hb2 hb3 hb4 hb hbb hbc HN0 HN1 HHx HB1 HS hbs hbs2 hsw0 hsw1 hcn
  go_wp2
  all_goals first
    | (generalize hsv : Value.slice (some (⟨b, o, none⟩ : Addr)) (n1 - 3) 0 = sv at *
       have HSv : Hid (∃ P cc, sv = .slice (some ⟨b, P, none⟩) (n1 - 3) cc ∧ (3 < n1 → P = o + 3)) := Lib.hid ⟨o, 0, hsv.symm, fun h => by omega⟩)
    | (generalize hsv : Value.slice (some (⟨b, o + 3, none⟩ : Addr)) (n1 - 3) (c1 - 3) = sv at *
       have HSv : Hid (∃ P cc, sv = .slice (some ⟨b, P, none⟩) (n1 - 3) cc ∧ (3 < n1 → P = o + 3)) := Lib.hid ⟨o + 3, c1 - 3, hsv.symm, fun _ => rfl⟩)
  all_goals
    clear hsv hnc
    try clear h
    go_loopw [50] (fun i wr => ∃ (k : Nat) (qq : Query) (y z : Value), i = .int .i64 k ∧ k ≤ n1 - 3 ∧ Hid (qr = (L.drop (3 + k)).foldl qStep qq) ∧ Hid (QS wr w4.heap.size w4.heap.size qq y z) ∧ Below w4.heap.size w4 wr) (fun i _ => n1 - 3 - (intOf i).toNat)
    case atStart => exact ⟨0, ⟨v0, v1, hv, [], [], false⟩, _, _, rfl, Nat.zero_le _, Lib.hid HRd.out, Lib.hid ⟨BoxIs.new w4 _ _, ⟨none, 0, 0, rfl⟩, ⟨none, 0, 0, rfl⟩, World.ownsRow_nil _ _ _ _, World.ownsRow_nil _ _ _ _, by simp [Value.ownBlock], by simp [Value.ownBlock], fun _ hg => (by simp [Value.ownBlock] at hg)⟩, by go_grown⟩
    case round =>
      obtain ⟨k, qq, y, z, rfl, hk, HR, HQ, hbw⟩ := hrel
      have hsr := hbw.size
      by_cases hlt : k < n1 - 3
      · obtain ⟨P, cc, rfl, hp⟩ := HSv.out
        obtain rfl := hp (by omega)
        have hkl : 3 + k < L.length := by rw [← Hn1.out]; omega
        obtain ⟨b', o', he', -, c0⟩ := StrsC.at1 HS4.out (3 + k) (by rw [← Hn1.out]; omega)
        cases he'
        replace c0 := cell_then hbs4 c0 hbw
        rw [← Nat.add_assoc] at c0
        obtain ⟨hxl, hxin⟩ := Hsp.out _ (mem_nth hkl)
        have HStep : Hid (qr = (L.drop (3 + (k + 1))).foldl qStep (qStep qq (nth L (3 + k)))) := Lib.hid (by rw [HR.out, drop_nth L (3 + k) hkl, List.foldl_cons]; rfl)
        clear hkl HR
        generalize nth L (3 + k) = x at *
        have hmc := canon_str hxin
        have hcl9 : (⟨#[99, 97, 110, 111, 110, 105, 99, 97, 108]⟩ : ByteArray).toList = [99, 97, 110, 111, 110, 105, 99, 97, 108] := by rw [ByteArray.toList_eq]
        have hmd := hmc
        rw [hcl9] at hmd
        have hxe := isEmpty_size (strOfNums x)
        rw [strOfNums_size] at hxe
        have hxs : (strOfNums x).size = x.length := strOfNums_size x
        have HTl := Lib.hid (tail_digs x hxin)
        by_cases hcan : x = canonC
        · have HSt := HStep.out
          rw [qStep_c hcan] at HSt
          have HS2 := Lib.hid HSt
          rw [decide_eq_true hcan] at hmc hmd
          have eQ := HQ.out.box.2.1
          have fQ := HQ.out.box.2.2
          have HQ2 := Lib.hid HQ.out.setC
          clear HSt HStep hcan hcl9 hxe HTl hxl hxin
          generalize strOfNums x = tx at *
          go_wp2
          exact ⟨⟨k + 1, _, y, z, by go_num, by omega, HS2, HQ2, hbw.setCell (Nat.le_refl _) _⟩, by simp [intOf]; omega⟩
        · rw [decide_eq_false hcan] at hmc hmd
          by_cases hnil : x = []
          · have HSt := HStep.out
            rw [qStep_o hcan (.inl hnil)] at HSt
            have HS2 := Lib.hid HSt
            have hx0 : (strOfNums x).toList.isEmpty = true := by rw [hxe, hnil]; rfl
            clear HSt HStep hcan hcl9 hxe HTl hxl hxin hnil hxs
            generalize strOfNums x = tx at *
            go_wp2
            exact ⟨⟨k + 1, qq, y, z, by go_num, by omega, HS2, HQ, hbw⟩, by simp [intOf]; omega⟩
          · have hxp : 0 < x.length := List.length_pos_iff.2 hnil
            have hx0 : (strOfNums x).toList.isEmpty = false := by rw [hxe]; exact decide_eq_false (by omega)
            have hxp2 : 0 < (strOfNums x).size := by omega
            have hcn := (chars_nth (strOfNums x) 0 hxp2).symm
            rw [chars_strOf hxin] at hcn
            have HSn := Lib.hid (fun h => qStep_n (q := qq) hcan hnil h)
            have HSa := Lib.hid (fun h => qStep_a (q := qq) hcan hnil h)
            have HSo := Lib.hid (fun h => qStep_o (q := qq) hcan (.inr h))
            have hxb : (strOfNums x).size ≤ 1048576 := by omega
            clear hcan hcl9 hxe hxl hxin hnil hxs hxp
            generalize nth x 0 = ch0 at *
            generalize (x.drop 1).map hexN = dg at *
            generalize qStep qq x = qs at *
            generalize strOfNums x = tx at *
            have HRD := Lib.hid (fun W => readDigits_c (tx.extract 1 tx.size) W (by simp [ByteArray.size_extract]; omega))
            rw [HTl.out] at HRD
            clear HTl
            by_cases h43 : ch0 = 43
            · have he43 : (ch0 == 43) = true := by rw [h43]; rfl
              obtain rfl := HSn.out h43
              clear HSn HSa HSo h43
              go_wp2_with fail
              refine (HRD.out _).mono ?_
              rintro e w5 ⟨a5, n5, c5, rfl, ho5, hb5⟩
              have HQ5 := Lib.hid (HQ.out.setN hb5 ho5 hsr)
              have eQ := (HQ.out.box.below hb5).2.1
              have fQ := (HQ.out.box.below hb5).2.2
              have hbw5 := bthen hbw hb5
              clear ho5 hb5
              go_wp2
              exact ⟨⟨k + 1, _, _, z, by go_num, by omega, HStep, HQ5, hbw5.setCell (Nat.le_refl _) _⟩, by simp [intOf]; omega⟩
            · have he43 : (ch0 == 43) = false := beq_eq_false_iff_ne.2 h43
              by_cases h45 : ch0 = 45
              · have he45 : (ch0 == 45) = true := by rw [h45]; rfl
                obtain rfl := HSa.out h45
                clear HSn HSa HSo h45 h43
                go_wp2_with fail
                refine (HRD.out _).mono ?_
                rintro e w5 ⟨a5, n5, c5, rfl, ho5, hb5⟩
                have HQ5 := Lib.hid (HQ.out.setA hb5 ho5 hsr)
                have eQ := (HQ.out.box.below hb5).2.1
                have fQ := (HQ.out.box.below hb5).2.2
                have hbw5 := bthen hbw hb5
                clear ho5 hb5
                go_wp2
                exact ⟨⟨k + 1, _, y, _, by go_num, by omega, HStep, HQ5, hbw5.setCell (Nat.le_refl _) _⟩, by simp [intOf]; omega⟩
              · have he45 : (ch0 == 45) = false := beq_eq_false_iff_ne.2 h45
                obtain rfl := HSo.out ⟨h43, h45⟩
                clear HSn HSa HSo h45 h43 HRD
                go_wp2
                exact ⟨⟨k + 1, _, y, z, by go_num, by omega, HStep, HQ, hbw⟩, by simp [intOf]; omega⟩
      · have hk3 : n1 ≤ 3 + k := by omega
        have hqr : qr = qq := by rw [HR.out, List.drop_eq_nil_of_le (by rw [← Hn1.out]; omega)]; rfl
        subst hqr
        obtain ⟨e1, f1⟩ := (HB4.out.below hbw).cells
        have hbx := bthen hbd hbw
        have HBr := Lib.hid (HB4.out.below hbw)
        have HTr := Lib.hid (HTab.out.below hbx)
        clear HR HSv HS4 Hsp hk3
        cases k0
        · have HX : Hid (rqOk cs = false) := Lib.hid (by rw [HRq.out]; rfl)
          clear HRq
          go_wp2
          refine bodyPost_ret (v := .tuple #[.agg #[.int .i64 0, .int .i64 0, .int .i64 0, .slice none 0 0, .slice none 0 0, .bool false], .bool false]) (by simp [results, Tryz.results13, go_sem, e1]) rfl ?_
          refine GivesQB.none (rqQ_no HX.out) HX.out ?_
          repeat (refine Below.setCell ?_ (by simp only []; omega) _)
          exact hbx
        cases k1
        · have HX : Hid (rqOk cs = false) := Lib.hid (by rw [HRq.out]; rfl)
          clear HRq
          go_wp2
          refine bodyPost_ret (v := .tuple #[.agg #[.int .i64 0, .int .i64 0, .int .i64 0, .slice none 0 0, .slice none 0 0, .bool false], .bool false]) (by simp [results, Tryz.results13, go_sem, e1]) rfl ?_
          refine GivesQB.none (rqQ_no HX.out) HX.out ?_
          repeat (refine Below.setCell ?_ (by simp only []; omega) _)
          exact hbx
        have eQ := HQ.out.box.2.1
        have HCT := Lib.hid (iQueryText_c qr y z wr HQ.out.at HTr.out)
        have hsp : 0 < s.size := by omega
        have hcmp := qText_is (q := qr) hsp
        rw [HCs.out] at hcmp
        have HRq2 : Hid (rqOk cs = (okQueryB qr && decide (qCh qr = cs))) := Lib.hid (by rw [HRq.out]; rfl)
        clear HRq
        generalize (okQueryB qr && decide (qCh qr = cs)) = bb at *
        generalize qTextB qr = tq at *
        go_wp2_with fail
        refine HCT.out.mono ?_
        rintro e w6 ⟨rfl, hb6⟩
        have hb6x := bthen hbx hb6
        have HQ6 := Lib.hid (HQ.out.below hb6)
        replace eQ := HQ6.out.box.2.1
        obtain ⟨e1, f1⟩ := (HBr.out.below hb6).cells
        have hs6 := hb6.size
        clear hb6 HCT
        cases bb
        · have HX : Hid (rqOk cs = false) := HRq2
          go_wp2
          refine bodyPost_ret (v := .tuple #[.agg #[.int .i64 0, .int .i64 0, .int .i64 0, .slice none 0 0, .slice none 0 0, .bool false], .bool false]) (by simp [results, Tryz.results13, go_sem, e1]) rfl ?_
          refine GivesQB.none (rqQ_no HX.out) HX.out ?_
          repeat (refine Below.setCell ?_ (by simp only []; omega) _)
          exact hb6x
        · have HX : Hid (rqOk cs = true) := HRq2
          obtain ⟨ya, yn, yc, rfl⟩ := HQ6.out.ys
          obtain ⟨za, zn, zc, rfl⟩ := HQ6.out.zs
          go_wp2
          refine bodyPost_ret (v := .tuple #[.agg #[.int .i64 qr.period, .int .i64 qr.props, .int .i64 qr.high, .slice ya yn yc, .slice za zn zc, .bool qr.canonical], .bool true]) (by simp [results, Tryz.results13, go_sem, e1]) rfl ?_
          rw [HX.out, HYes.out HX.out]
          refine ⟨ya, yn, yc, za, zn, zc, rfl, ?_, ?_, HQ6.out.dis, ?_⟩
          · refine own_mono (base' := w4.heap.size) ?_ (by omega)
            repeat (refine ownsRow_setCell_below ?_ (by simp only []; omega) _)
            exact HQ6.out.oy
          · refine own_mono (base' := w4.heap.size) ?_ (by omega)
            repeat (refine ownsRow_setCell_below ?_ (by simp only []; omega) _)
            exact HQ6.out.oz
          · repeat (refine Below.setCell ?_ (by simp only []; omega) _)
            exact hb6x
end Go.Proofs.YtclffohjpbmnbaaGreatDoor

/- ReadQS: queries read out of their text, by the package spec. -/
namespace Go.Proofs.YtclffohjpbmnbaaGreatDoor
open Go.ChangeShapes Go.WideShapes Go.ChangeAt Go.RowKit

theorem sText_is {q : Query} {s : ByteArray} (h : okQueryB q = true) : ((strOfNums (qCh q)).toList == s.toList) = decide (qCh q = chars s) := by
  rw [beq_bytes]
  refine decide_eq_decide.2 ⟨fun e => ?_, fun e => ?_⟩
  · rw [← e, chars_strOf (qCh_in h)]
  · rw [e, strOf_chars]
set_option maxRecDepth 100000 in
set_option maxHeartbeats 4000000 in
theorem sReadQuery_c (s : ByteArray) (w : World) (hs : s.size ≤ 1048576) : Calls Tryz.prog 15 #[.string s] w (GivesQB (rqQ (chars s)) (rqOk (chars s)) w) := by
  have HQ := Lib.hid (fun W => l01Split_c s 32 W hs)
  have hcl : (chars s).length ≤ 1048576 := by rw [chars_len]; exact hs
  have HSz : Hid (s.size = (chars s).length) := Lib.hid (chars_len s).symm
  have Hin := Lib.hid (chars_in s)
  have HFew := Lib.hid (fun h => rqOk_few (cs := chars s) h)
  have HMany := Lib.hid (fun h => rqOk_many (cs := chars s) h)
  have HWide := Lib.hid (fun h => rqOk_wide (cs := chars s) h)
  have HEq := Lib.hid (fun h h2 => rqOk_eq (cs := chars s) h h2)
  have HYes := Lib.hid (fun h => rqQ_yes (cs := chars s) h)
  have Hsp : Hid (∀ x ∈ splitL 32 (chars s), x.length ≤ 1048576 ∧ ∀ c ∈ x, 0 ≤ c ∧ c ≤ 255) := Lib.hid (fun x hx => ⟨Nat.le_trans (split_len1 32 _ x hx) hcl, fun c hc => Hin.out c (split_mem 32 _ x hx c hc)⟩)
  generalize hcs : chars s = cs at *
  have HCs := Lib.hid hcs
  clear hcs hcl
  go_enter Tryz.func15, Tryz.ntmps15
  go_wp2_with fail
  have hb0 : Below w.heap.size w (w.alloc (.cells #[.int .i64 0, .int .i64 0, .int .i64 0, .slice none 0 0, .slice none 0 0, .bool false] 26)) := by go_grown
  have HB0 := Lib.hid (BoxIs.new w [.int .i64 0, .int .i64 0, .int .i64 0, .slice none 0 0, .slice none 0 0, .bool false] 26)
  generalize w.alloc (.cells #[.int .i64 0, .int .i64 0, .int .i64 0, .slice none 0 0, .slice none 0 0, .bool false] 26) = w0 at *
  refine (HQ.out _).mono ?_
  rintro e w1 ⟨a1, n1, c1, rfl, ho1, hb1⟩
  obtain ⟨ax, nx, cx, he, hn1, -, -, hS⟩ := OwnStrs.at ho1
  cases he
  rw [List.length_map] at hn1
  have HS := Lib.hid hS
  have hb := bthen hb0 hb1
  have HB1 := Lib.hid (HB0.out.below hb1)
  have hsw0 := HB0.out.1
  have hsw1 := HB1.out.1
  obtain ⟨e1, f1⟩ := HB1.out.cells
  clear ho1 hS HQ hb0 hb1 HB0
  by_cases hlo : n1 < 3
  · have hlo' : (n1 : Int) < 3 := by omega
    have HX := Lib.hid (HFew.out (by rw [← hn1]; exact hlo))
    clear hn1
    go_wp2
    refine bodyPost_ret (v := .tuple #[.agg #[.int .i64 0, .int .i64 0, .int .i64 0, .slice none 0 0, .slice none 0 0, .bool false], .bool false]) (by simp [results, Tryz.results15, go_sem, e1]) rfl ?_
    refine GivesQB.none (rqQ_no HX.out) HX.out ?_
    repeat (refine Below.setCell ?_ (by simp only []; omega) _)
    exact hb
  have hlo' : ¬ (n1 : Int) < 3 := by omega
  have hlt3 : decide ((n1 : Int) < 3) = false := decide_eq_false hlo'
  by_cases hhi : 6 < n1
  · have hhi' : decide ((6 : Int) < (n1 : Int)) = true := decide_eq_true (by omega)
    have HX := Lib.hid (HMany.out (by rw [← hn1]; exact hhi))
    clear hn1
    go_wp2
    refine bodyPost_ret (v := .tuple #[.agg #[.int .i64 0, .int .i64 0, .int .i64 0, .slice none 0 0, .slice none 0 0, .bool false], .bool false]) (by simp [results, Tryz.results15, go_sem, e1]) rfl ?_
    refine GivesQB.none (rqQ_no HX.out) HX.out ?_
    repeat (refine Below.setCell ?_ (by simp only []; omega) _)
    exact hb
  have hhi' : decide ((6 : Int) < (n1 : Int)) = false := decide_eq_false (by omega)
  have hm : ∀ i, i < n1 → (nth (splitL 32 cs) i).length ≤ 1048576 ∧ ∀ c ∈ nth (splitL 32 cs) i, 0 ≤ c ∧ c ≤ 255 := fun i hi => Hsp.out _ (mem_nth (by rw [← hn1]; exact hi))
  have Hm := Lib.hid hm
  obtain ⟨b, o, rfl, hbs, d0⟩ := StrsC.at1 HS.out 0 (by omega)
  obtain ⟨b', o', he', -, d1⟩ := StrsC.at1 HS.out 1 (by omega)
  cases he'
  obtain ⟨b', o', he', -, d2⟩ := StrsC.at1 HS.out 2 (by omega)
  cases he'
  have hz2 : (strOfNums (nth (splitL 32 cs) 2)).size = (nth (splitL 32 cs) 2).length := strOfNums_size _
  by_cases hw2 : ¬ (nth (splitL 32 cs) 2).length = 1
  · have HX := Lib.hid (HWide.out hw2)
    have hne : ((((strOfNums (nth (splitL 32 cs) 2)).size : Nat) : Int) != 1) = true := bne_iff_ne.2 (by omega)
    clear hz2 hw2 hm hn1
    generalize strOfNums (nth (splitL 32 cs) 2) = t2 at *
    go_wp2
    refine bodyPost_ret (v := .tuple #[.agg #[.int .i64 0, .int .i64 0, .int .i64 0, .slice none 0 0, .slice none 0 0, .bool false], .bool false]) (by simp [results, Tryz.results15, go_sem, e1]) rfl ?_
    refine GivesQB.none (rqQ_no HX.out) HX.out ?_
    repeat (refine Below.setCell ?_ (by simp only []; omega) _)
    exact hb
  replace hw2 := Classical.not_not.1 hw2
  have hne : ((((strOfNums (nth (splitL 32 cs) 2)).size : Nat) : Int) != 1) = false := by rw [hz2, hw2]; rfl
  have hz0 : (strOfNums (nth (splitL 32 cs) 0)).size ≤ 1048576 := by rw [strOfNums_size]; exact (hm 0 (by omega)).1
  have hz1 : (strOfNums (nth (splitL 32 cs) 1)).size ≤ 1048576 := by rw [strOfNums_size]; exact (hm 1 (by omega)).1
  have HN0 := Lib.hid (fun W => l01Number_c (strOfNums (nth (splitL 32 cs) 0)) W hz0)
  have HN1 := Lib.hid (fun W => l01Number_c (strOfNums (nth (splitL 32 cs) 1)) W hz1)
  rw [chars_strOf (hm 0 (by omega)).2] at HN0
  rw [chars_strOf (hm 1 (by omega)).2] at HN1
  have hlt2 : 0 < (strOfNums (nth (splitL 32 cs) 2)).size := by omega
  have hcn := (chars_nth (strOfNums (nth (splitL 32 cs) 2)) 0 hlt2).symm
  rw [chars_strOf (hm 2 (by omega)).2] at hcn
  have hcb : 0 ≤ nth (nth (splitL 32 cs) 2) 0 ∧ nth (nth (splitL 32 cs) 2) 0 ≤ 255 := (hm 2 (by omega)).2 _ (mem_nth (by omega))
  have HHx := Lib.hid (fun W => l04Value_c (nth (nth (splitL 32 cs) 2) 0) W hcb.1 hcb.2)
  have hsz2 : (strOfNums (nth (splitL 32 cs) 2)).size = 1 := by omega
  have HRq : Hid (rqOk cs = (numOk (nth (splitL 32 cs) 0) && (numOk (nth (splitL 32 cs) 1) && (okQueryB (qRead (splitL 32 cs)) && decide (qCh (qRead (splitL 32 cs)) = cs))))) := Lib.hid (HEq.out (by omega) hw2)
  have HRd : Hid (qRead (splitL 32 cs) = ((splitL 32 cs).drop 3).foldl qStep ⟨numN (nth (splitL 32 cs) 0), numN (nth (splitL 32 cs) 1), hexN (nth (nth (splitL 32 cs) 2) 0), [], [], false⟩) := Lib.hid rfl
  have Hn1 := Lib.hid hn1
  have hn20 : n1 ≤ s.size + 1 := by rw [hn1, HSz.out, qsplit_count]; have := List.count_le_length (a := (32 : Int)) (l := cs); omega
  rw [Nat.add_zero] at d0
  clear hm hz0 hz1 hz2 hw2 HEq HWide HFew HMany hn1
  generalize qRead (splitL 32 cs) = qr at *
  generalize numOk (nth (splitL 32 cs) 0) = k0 at *
  generalize numOk (nth (splitL 32 cs) 1) = k1 at *
  generalize numN (nth (splitL 32 cs) 0) = v0 at *
  generalize numN (nth (splitL 32 cs) 1) = v1 at *
  generalize nth (nth (splitL 32 cs) 2) 0 = ch at *
  generalize strOfNums (nth (splitL 32 cs) 0) = t0 at *
  generalize strOfNums (nth (splitL 32 cs) 1) = t1 at *
  generalize strOfNums (nth (splitL 32 cs) 2) = t2 at *
  generalize hexN ch = hv at *
  generalize splitL 32 cs = L at *
  go_wp2_with fail
  refine (HN0.out _).mono ?_
  rintro e w2 ⟨rfl, hb2⟩
  have hbb := bthen hb hb2
  replace d1 := cell_then hbs d1 hb2
  replace d2 := cell_then hbs d2 hb2
  go_wp2_with fail
  refine (HN1.out _).mono ?_
  rintro e w3 ⟨rfl, hb3⟩
  have hbc := bthen hbb hb3
  have hbs2 := Nat.lt_of_lt_of_le hbs hb2.size
  replace d2 := cell_then hbs2 d2 hb3
  go_wp2_with fail
  refine (HHx.out _).mono ?_
  rintro e w4 ⟨rfl, hb4⟩
  have hbd := bthen hbc hb4
  have HB4 := Lib.hid (((HB1.out.below hb2).below hb3).below hb4)
  have HS4 := Lib.hid (((HS.out.below hb2).below hb3).below hb4)
  have hbs4 : b < w4.heap.size := by have := hb2.size; have := hb3.size; have := hb4.size; omega
  have hw4 : w.heap.size < w4.heap.size := HB4.out.1
  clear d0 d1 d2 e1 f1 hb2 hb3 hb4 hb hbb hbc HN0 HN1 HHx HB1 HS hbs hbs2 hsw0 hsw1 hcn
  go_wp2
  go_loopw [10] (fun i wr => ∃ (k : Nat) (qq : Query) (y z : Value), i = .int .i64 k ∧ 3 ≤ k ∧ k ≤ n1 ∧ Hid (qr = (L.drop k).foldl qStep qq) ∧ Hid (QS wr w4.heap.size w4.heap.size qq y z) ∧ Below w4.heap.size w4 wr) (fun i _ => n1 - (intOf i).toNat)
  case atStart => exact ⟨3, ⟨v0, v1, hv, [], [], false⟩, _, _, rfl, Nat.le_refl _, by omega, Lib.hid HRd.out, Lib.hid ⟨BoxIs.new w4 _ _, ⟨none, 0, 0, rfl⟩, ⟨none, 0, 0, rfl⟩, World.ownsRow_nil _ _ _ _, World.ownsRow_nil _ _ _ _, by simp [Value.ownBlock], by simp [Value.ownBlock], fun _ hg => (by simp [Value.ownBlock] at hg)⟩, by go_grown⟩
  case round =>
    obtain ⟨k, qq, y, z, rfl, hk3, hk, HR, HQ, hbw⟩ := hrel
    have hsr := hbw.size
    by_cases hlt : k < n1
    · have hkl : k < L.length := by rw [← Hn1.out]; omega
      obtain ⟨b', o', he', -, c0⟩ := StrsC.at1 HS4.out k (by rw [← Hn1.out]; omega)
      cases he'
      replace c0 := cell_then hbs4 c0 hbw
      obtain ⟨hxl, hxin⟩ := Hsp.out _ (mem_nth hkl)
      have HStep : Hid (qr = (L.drop (k + 1)).foldl qStep (qStep qq (nth L k))) := Lib.hid (by rw [HR.out, drop_nth L k hkl, List.foldl_cons])
      clear hkl HR
      generalize nth L k = x at *
      have hmc := canon_str hxin
      have hcl9 : (⟨#[99, 97, 110, 111, 110, 105, 99, 97, 108]⟩ : ByteArray).toList = [99, 97, 110, 111, 110, 105, 99, 97, 108] := by rw [ByteArray.toList_eq]
      have hmd := hmc
      rw [hcl9] at hmd
      have hxe := isEmpty_size (strOfNums x)
      rw [strOfNums_size] at hxe
      have hxs : (strOfNums x).size = x.length := strOfNums_size x
      have HTl := Lib.hid (tail_digs x hxin)
      by_cases hcan : x = canonC
      · have HSt := HStep.out
        rw [qStep_c hcan] at HSt
        have HS2 := Lib.hid HSt
        rw [decide_eq_true hcan] at hmc hmd
        have eQ := HQ.out.box.2.1
        have fQ := HQ.out.box.2.2
        have HQ2 := Lib.hid HQ.out.setC
        clear HSt HStep hcan hcl9 hxe HTl hxl hxin
        generalize strOfNums x = tx at *
        go_wp2
        exact ⟨⟨k + 1, _, y, z, by go_num, by omega, hlt, HS2, HQ2, hbw.setCell (Nat.le_refl _) _⟩, by simp [intOf]; omega⟩
      · rw [decide_eq_false hcan] at hmc hmd
        by_cases hnil : x = []
        · have HSt := HStep.out
          rw [qStep_o hcan (.inl hnil)] at HSt
          have HS2 := Lib.hid HSt
          have hx0 : (strOfNums x).toList.isEmpty = true := by rw [hxe, hnil]; rfl
          clear HSt HStep hcan hcl9 hxe HTl hxl hxin hnil hxs
          generalize strOfNums x = tx at *
          go_wp2
          exact ⟨⟨k + 1, qq, y, z, by go_num, by omega, hlt, HS2, HQ, hbw⟩, by simp [intOf]; omega⟩
        · have hxp : 0 < x.length := List.length_pos_iff.2 hnil
          have hx0 : (strOfNums x).toList.isEmpty = false := by rw [hxe]; exact decide_eq_false (by omega)
          have hxp2 : 0 < (strOfNums x).size := by omega
          have hcn := (chars_nth (strOfNums x) 0 hxp2).symm
          rw [chars_strOf hxin] at hcn
          have HSn := Lib.hid (fun h => qStep_n (q := qq) hcan hnil h)
          have HSa := Lib.hid (fun h => qStep_a (q := qq) hcan hnil h)
          have HSo := Lib.hid (fun h => qStep_o (q := qq) hcan (.inr h))
          have hxb : (strOfNums x).size ≤ 1048576 := by omega
          clear hcan hcl9 hxe hxl hxin hnil hxs hxp
          generalize nth x 0 = ch0 at *
          generalize (x.drop 1).map hexN = dg at *
          generalize qStep qq x = qs at *
          generalize strOfNums x = tx at *
          have HRD := Lib.hid (fun W => l02Read_c (tx.extract 1 tx.size) W (by simp [ByteArray.size_extract]; omega))
          rw [HTl.out] at HRD
          clear HTl
          by_cases h43 : ch0 = 43
          · have he43 : (ch0 == 43) = true := by rw [h43]; rfl
            obtain rfl := HSn.out h43
            clear HSn HSa HSo h43
            go_wp2_with fail
            refine (HRD.out _).mono ?_
            rintro e w5 ⟨a5, n5, c5, rfl, ho5, hb5⟩
            have HQ5 := Lib.hid (HQ.out.setN hb5 ho5 hsr)
            have eQ := (HQ.out.box.below hb5).2.1
            have fQ := (HQ.out.box.below hb5).2.2
            have hbw5 := bthen hbw hb5
            clear ho5 hb5
            go_wp2
            exact ⟨⟨k + 1, _, _, z, by go_num, by omega, hlt, HStep, HQ5, hbw5.setCell (Nat.le_refl _) _⟩, by simp [intOf]; omega⟩
          · have he43 : (ch0 == 43) = false := beq_eq_false_iff_ne.2 h43
            by_cases h45 : ch0 = 45
            · have he45 : (ch0 == 45) = true := by rw [h45]; rfl
              obtain rfl := HSa.out h45
              clear HSn HSa HSo h45 h43
              go_wp2_with fail
              refine (HRD.out _).mono ?_
              rintro e w5 ⟨a5, n5, c5, rfl, ho5, hb5⟩
              have HQ5 := Lib.hid (HQ.out.setA hb5 ho5 hsr)
              have eQ := (HQ.out.box.below hb5).2.1
              have fQ := (HQ.out.box.below hb5).2.2
              have hbw5 := bthen hbw hb5
              clear ho5 hb5
              go_wp2
              exact ⟨⟨k + 1, _, y, _, by go_num, by omega, hlt, HStep, HQ5, hbw5.setCell (Nat.le_refl _) _⟩, by simp [intOf]; omega⟩
            · have he45 : (ch0 == 45) = false := beq_eq_false_iff_ne.2 h45
              obtain rfl := HSo.out ⟨h43, h45⟩
              clear HSn HSa HSo h45 h43 HRD
              go_wp2
              exact ⟨⟨k + 1, _, y, z, by go_num, by omega, hlt, HStep, HQ, hbw⟩, by simp [intOf]; omega⟩
    · have hqr : qr = qq := by rw [HR.out, List.drop_eq_nil_of_le (by rw [← Hn1.out]; omega)]; rfl
      subst hqr
      obtain rfl : k = n1 := by omega
      obtain ⟨e1, f1⟩ := (HB4.out.below hbw).cells
      have hbx := bthen hbd hbw
      have HBr := Lib.hid (HB4.out.below hbw)
      clear HR HS4 Hsp
      cases k0
      · have HX : Hid (rqOk cs = false) := Lib.hid (by rw [HRq.out]; rfl)
        clear HRq
        go_wp2
        refine bodyPost_ret (v := .tuple #[.agg #[.int .i64 0, .int .i64 0, .int .i64 0, .slice none 0 0, .slice none 0 0, .bool false], .bool false]) (by simp [results, Tryz.results15, go_sem, e1]) rfl ?_
        refine GivesQB.none (rqQ_no HX.out) HX.out ?_
        repeat (refine Below.setCell ?_ (by simp only []; omega) _)
        exact hbx
      cases k1
      · have HX : Hid (rqOk cs = false) := Lib.hid (by rw [HRq.out]; rfl)
        clear HRq
        go_wp2
        refine bodyPost_ret (v := .tuple #[.agg #[.int .i64 0, .int .i64 0, .int .i64 0, .slice none 0 0, .slice none 0 0, .bool false], .bool false]) (by simp [results, Tryz.results15, go_sem, e1]) rfl ?_
        refine GivesQB.none (rqQ_no HX.out) HX.out ?_
        repeat (refine Below.setCell ?_ (by simp only []; omega) _)
        exact hbx
      have HOk := Lib.hid (l21Ok_c qr y z w4.heap.size wr HQ.out.box HQ.out.at)
      have HTx := Lib.hid (fun W h1 h2 => l21Text_c qr y z w4.heap.size W h1 h2)
      have HCmp := Lib.hid (fun h => sText_is (q := qr) (s := s) h)
      have HRq2 : Hid (rqOk cs = (okQueryB qr && decide (qCh qr = cs))) := Lib.hid (by rw [HRq.out]; rfl)
      rw [HCs.out] at HCmp
      clear HRq
      generalize okQueryB qr = bo at *
      cases bo
      · have HX : Hid (rqOk cs = false) := HRq2
        clear HTx HCmp HRq2
        go_wp2_with fail
        refine HOk.out.mono ?_
        rintro e w6 ⟨rfl, hb6⟩
        have hb6x := bthen hbx hb6
        obtain ⟨e1, f1⟩ := (HBr.out.below hb6).cells
        have hs6 := hb6.size
        clear hb6 HOk
        go_wp2
        refine bodyPost_ret (v := .tuple #[.agg #[.int .i64 0, .int .i64 0, .int .i64 0, .slice none 0 0, .slice none 0 0, .bool false], .bool false]) (by simp [results, Tryz.results15, go_sem, e1]) rfl ?_
        refine GivesQB.none (rqQ_no HX.out) HX.out ?_
        repeat (refine Below.setCell ?_ (by simp only []; omega) _)
        exact hb6x
      go_wp2_with fail
      refine HOk.out.mono ?_
      rintro e w6 ⟨rfl, hb6⟩
      have HQ6 := Lib.hid (HQ.out.below hb6)
      have hb6x := bthen hbx hb6
      have HB6 := Lib.hid (HBr.out.below hb6)
      have HTx2 := Lib.hid (HTx.out w6 HQ6.out.box HQ6.out.at (by trivial))
      have hcmp := HCmp.out (by trivial)
      have hs6 := hb6.size
      clear hb6 HOk HTx HCmp HBr e1 f1 HQ
      generalize strOfNums (qCh qr) = tq at *
      generalize decide (qCh qr = cs) = bb at *
      go_wp2_with fail
      refine HTx2.out.mono ?_
      rintro e w7 ⟨rfl, hb7⟩
      have HQ7 := Lib.hid (HQ6.out.below hb7)
      have eQ := HQ7.out.box.2.1
      have hb7x := bthen hb6x hb7
      obtain ⟨e1, f1⟩ := (HB6.out.below hb7).cells
      have hs7 := hb7.size
      clear hb7 HTx2 HQ6 HB6 hb6x
      cases bb
      · have HX : Hid (rqOk cs = false) := HRq2
        go_wp2
        refine bodyPost_ret (v := .tuple #[.agg #[.int .i64 0, .int .i64 0, .int .i64 0, .slice none 0 0, .slice none 0 0, .bool false], .bool false]) (by simp [results, Tryz.results15, go_sem, e1]) rfl ?_
        refine GivesQB.none (rqQ_no HX.out) HX.out ?_
        repeat (refine Below.setCell ?_ (by simp only []; omega) _)
        exact hb7x
      · have HX : Hid (rqOk cs = true) := HRq2
        obtain ⟨ya, yn, yc, rfl⟩ := HQ7.out.ys
        obtain ⟨za, zn, zc, rfl⟩ := HQ7.out.zs
        go_wp2
        refine bodyPost_ret (v := .tuple #[.agg #[.int .i64 qr.period, .int .i64 qr.props, .int .i64 qr.high, .slice ya yn yc, .slice za zn zc, .bool qr.canonical], .bool true]) (by simp [results, Tryz.results15, go_sem, e1]) rfl ?_
        rw [HX.out, HYes.out HX.out]
        refine ⟨ya, yn, yc, za, zn, zc, rfl, ?_, ?_, HQ7.out.dis, ?_⟩
        · refine own_mono (base' := w4.heap.size) ?_ (by omega)
          repeat (refine ownsRow_setCell_below ?_ (by simp only []; omega) _)
          exact HQ7.out.oy
        · refine own_mono (base' := w4.heap.size) ?_ (by omega)
          repeat (refine ownsRow_setCell_below ?_ (by simp only []; omega) _)
          exact HQ7.out.oz
        · repeat (refine Below.setCell ?_ (by simp only []; omega) _)
          exact hb7x
end Go.Proofs.YtclffohjpbmnbaaGreatDoor
