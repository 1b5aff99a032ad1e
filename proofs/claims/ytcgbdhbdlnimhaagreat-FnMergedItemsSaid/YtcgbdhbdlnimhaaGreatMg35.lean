import Derived.Test.YtcgbdhbdlnimhaaGreatMg34
import Derived.Test.YtcgbdhbdlnimhaaGreatMg25
import Derived.Test.YtcgbdhbdlnimhaaGreatMg28
import Derived.Test.YtcgbdhbdlnimhaaGreatMg26
/- ReadIt: a library read out of its text, by both packages. -/
namespace Go.Proofs.YtcgbdhbdlnimhaaGreat
open Go.ChangeShapes Go.WideShapes Go.ChangeAt Go.RowKit

def GivesItemsB (l : List Item) (b : Bool) (w : World) (e : Ending) (w' : World) : Prop := ∃ a n c, e = .returned (.tuple #[.slice a n c, .bool b]) ∧ OwnItems w' w.heap.size (.slice a n c) l ∧ Below w.heap.size w w'
theorem own_items_none (w : World) (base : Nat) : OwnItems w base (.slice none 0 0) [] := ⟨[], rfl, World.ownsRow_nil _ _ _ _, fun _ h => absurd h List.not_mem_nil, List.Pairwise.nil⟩
theorem GivesItemsB.none {l : List Item} {b c : Bool} {w w' : World} (h : l = []) (hc : b = c) (hb : Below w.heap.size w w') : GivesItemsB l b w (.returned (.tuple #[.slice Option.none 0 0, .bool c])) w' :=
  ⟨Option.none, 0, 0, by rw [hc], by rw [h]; exact own_items_none _ _, hb⟩
theorem GivesItemsB.mk {l : List Item} {b d : Bool} {a : Option Addr} {n c : Nat} {w w' : World} (hc : b = d) (ho : OwnItems w' w.heap.size (.slice a n c) l) (hb : Below w.heap.size w w') : GivesItemsB l b w (.returned (.tuple #[.slice a n c, .bool d])) w' :=
  ⟨a, n, c, by rw [hc], ho, hb⟩
theorem OwnItems.mono {w : World} {base base' : Nat} {v : Value} {l : List Item} (h : OwnItems w base' v l) (hb : base ≤ base') : OwnItems w base v l := by
  obtain ⟨ps, h1, h2, h3, h4⟩ := h
  exact ⟨ps, h1, own_mono h2 hb, fun p hp => ⟨(h3 p hp).1, own_mono (h3 p hp).2.1 hb, (h3 p hp).2.2.1, (h3 p hp).2.2.2⟩, h4⟩
theorem StrsC.at1 {w : World} {a : Option Addr} {L : List (List Int)} (h : StrsC w a (L.map strOfNums)) (k : Nat) (hk : k < L.length) : ∃ b o, a = some ⟨b, o, none⟩ ∧ b < w.heap.size ∧ w.cell? ⟨b, o + k, none⟩ = some (.string (strOfNums (nth L k))) := by
  obtain ⟨b, o, h1, h2, h3⟩ := h k (by rw [List.length_map]; exact hk)
  refine ⟨b, o, h1, h2, ?_⟩
  rw [h3]
  congr 2
  rw [nth_eq _ _ (by rw [List.length_map]; exact hk), nth_eq _ _ hk, List.getElem_map]
set_option maxHeartbeats 4000000 in
theorem iReadItems_c (s : ByteArray) (w : World) (hs : s.size ≤ 1048576) : Calls Tryz.prog 28 #[.string s] w (GivesItemsB (readL (chars s)) (readOk (chars s)) w) := by
  have HQ := Lib.hid (textLines_c s w hs)
  have hcl : (chars s).length ≤ 1048576 := by rw [chars_len]; exact hs
  have Hin := Lib.hid (chars_in s)
  generalize chars s = cs at *
  cases hLO : linesOk cs
  · have HN := Lib.hid (readOk_lines hLO)
    rw [hLO] at HQ
    clear hLO
    go_enter Tryz.func28, Tryz.ntmps28
    go_wp2_with fail
    refine HQ.out.mono ?_
    rintro e w1 ⟨a1, n1, c1, rfl, ho1, hb1⟩
    clear ho1 HQ
    go_wp2
    go_ret2
    exact GivesItemsB.none (readL_no HN.out) HN.out hb1
  · have HLO := Lib.hid hLO
    rw [hLO] at HQ
    have HNo := Lib.hid (fun k (hk : k < (linesL cs).length) h => readOk_bad (cs := cs) hk h)
    have HAll := Lib.hid (fun h => readOk_all (cs := cs) hLO h)
    have Hlin : Hid (∀ k, k < (linesL cs).length → (nth (linesL cs) k).length ≤ 1048576 ∧ ∀ x ∈ nth (linesL cs) k, 0 ≤ x ∧ x ≤ 255) := Lib.hid (fun k hk => by
      have hm := lines_mem (mem_nth hk)
      exact ⟨Nat.le_trans (split_len1 10 cs _ hm) hcl, fun x hx => Hin.out x (split_mem 10 cs _ hm x hx)⟩)
    have hLc : (linesL cs).length ≤ 1048576 := Nat.le_trans (lines_count cs) hcl
    have HYes := Lib.hid (fun h => readL_yes (cs := cs) h)
    clear hLO
    generalize linesL cs = L at *
    go_enter Tryz.func28, Tryz.ntmps28
    go_wp2_with fail
    refine HQ.out.mono ?_
    rintro e w1 ⟨a1, n1, c1, rfl, ho1, hb1⟩
    obtain ⟨ax, nx, cx, he, hn1, -, -, hS⟩ := OwnStrs.at ho1
    cases he
    rw [List.length_map] at hn1
    have HS := Lib.hid hS
    have Hn := Lib.hid hn1
    clear ho1 hS HQ
    have hn20 : n1 ≤ 1048576 := by omega
    clear hn1
    go_wp2
    go_loopw [6, 24] (fun s i wr => ∃ (k : Nat) (a' : Option Addr) (n' c' : Nat), i = .int .i64 k ∧ k ≤ n1 ∧ s = .slice a' n' c' ∧ Hid (OwnItems wr w1.heap.size (.slice a' n' c') ((L.take k).map lineItem)) ∧ Hid (∀ j, j < k → lineOk (nth L j) = true) ∧ Below w1.heap.size w1 wr) (fun _ i _ => n1 - (intOf i).toNat)
    case atStart => exact ⟨0, _, _, _, rfl, Nat.zero_le _, rfl, Lib.hid (own_items_empty w1), Lib.hid (fun j h => absurd h (Nat.not_lt_zero _)), by go_grown⟩
    case round =>
      obtain ⟨k, a', n', c', rfl, hk, rfl, HO, HG, hb⟩ := hrel
      by_cases hlt : k < n1
      · have hkl : k < L.length := by rw [← Hn.out]; exact hlt
        obtain ⟨b, o, rfl, hbs, c0⟩ := (HS.out.at1 k hkl)
        replace c0 := cell_then hbs c0 hb
        obtain ⟨hpl, hpin⟩ := Hlin.out k hkl
        have HBad := Lib.hid (HNo.out k hkl)
        have HT : Hid ((L.take (k + 1)).map lineItem = (L.take k).map lineItem ++ [lineItem (nth L k)]) := Lib.hid (by rw [take_nth L k hkl, List.map_append]; rfl)
        have HG2 : Hid (lineOk (nth L k) = true → ∀ j, j < k + 1 → lineOk (nth L j) = true) := Lib.hid (fun h j hj => by
          rcases Nat.lt_succ_iff_lt_or_eq.1 hj with h1 | rfl
          · exact HG.out j h1
          · exact h)
        obtain ⟨ps, hps, hN⟩ := InNest.of HO.out
        have hlen : ps.length = k := by have := congrArg List.length hps; rw [List.length_map, List.length_map, List.length_take] at this; omega
        have HN := Lib.hid hN
        have Hps := Lib.hid hps
        have Hlen := Lib.hid hlen
        clear hN hps hkl HG hlen
        generalize nth L k = p at *
        have HtC : Hid (chars (strOfNums p) = p) := Lib.hid (chars_strOf hpin)
        have hts : (strOfNums p).size ≤ 1048576 := by rw [strOfNums_size]; exact hpl
        have hsz : (strOfNums p).size = p.length := strOfNums_size p
        have HQ1 := Lib.hid (cut_c (strOfNums p) ⟨#[32]⟩ 32 rfl wr hts)
        by_cases hf : findL 32 p < p.length
        · have hq := HQ1.out
          unfold cutV at hq
          rw [HtC.out, if_pos (by rw [hsz]; exact hf)] at hq
          have HQ2 := Lib.hid hq
          have htx : (strOfNums (p.drop (findL 32 p + 1))).size ≤ 1048576 := by rw [strOfNums_size, List.length_drop]; omega
          have HR := Lib.hid (fun W => readPattern_c (strOfNums (p.drop (findL 32 p + 1))) W htx)
          have hdg : digsL (strOfNums (p.drop (findL 32 p + 1))) = (p.drop (findL 32 p + 1)).map hexN := by unfold digsL; rw [chars_strOf (fun x hx => hpin x (List.mem_of_mem_drop hx))]
          have hLk : lineOk p = okPat ((p.drop (findL 32 p + 1)).map hexN) := by unfold lineOk; rw [decide_eq_true hf, Bool.true_and]
          have HIt : Hid (lineItem p = ⟨strOfNums (p.take (findL 32 p)), (p.drop (findL 32 p + 1)).map hexN⟩) := Lib.hid rfl
          have Hnm : Hid ((strOfNums (p.take (findL 32 p))).size ≤ 9223372036854775807) := Lib.hid (by rw [strOfNums_size, List.length_take]; omega)
          unfold patR at HR
          rw [hdg] at HR
          rw [hLk] at HBad HG2
          clear hq HQ1 hf hdg hLk hpin hpl hsz hts htx HtC
          generalize strOfNums (p.drop (findL 32 p + 1)) = tx at *
          generalize (p.drop (findL 32 p + 1)).map hexN = dg at *
          generalize strOfNums (p.take (findL 32 p)) = nm at *
          cases hok : okPat dg
          · rw [hok] at HR
            have HX := Lib.hid (HBad.out hok)
            clear HBad HG2 hok
            go_wp2_with fail
            refine HQ2.out.mono ?_
            rintro e w2 ⟨rfl, hb2⟩
            go_wp2_with fail
            refine (HR.out _).mono ?_
            rintro e w3 ⟨a3, n3, c3, rfl, ho3, hb3⟩
            clear ho3
            go_wp2
            go_ret2
            exact GivesItemsB.none (readL_no HX.out) HX.out (bthen hb1 (bthen hb (bthen hb2 hb3)))
          · rw [hok] at HR
            have HG3 := Lib.hid (HG2.out hok)
            clear HBad HG2 hok
            go_wp2_with fail
            refine HQ2.out.mono ?_
            rintro e w2 ⟨rfl, hb2⟩
            go_wp2_with fail
            refine (HR.out _).mono ?_
            rintro e w3 ⟨a3, n3, c3, rfl, ho3, hb3⟩
            have HI : Hid (InInts w3 w2.heap.size w3.heap.size (.slice a3 n3 c3) dg) := Lib.hid (InInts.of (by simpa using ho3))
            have hb23 := bthen hb2 hb3
            have HN3 := Lib.hid (HN.out.below hb23)
            have hs2 := hb2.size
            have hs3 := hb3.size
            have hs0 := hb.size
            have hbb := bthen hb hb23
            clear ho3 HR HQ2
            go_wp2_with (at_builtin; refine wpList_app_items rfl _ _ rfl w1.heap.size _ ps.length _ rfl (HN3.out.below (go_below_alloc _ _)).row.1 _ 1 1 [.string nm, .slice a3 n3 c3] rfl (item_new _ _ _ _) (by intro y hy; simp at hy; rcases hy with rfl | rfl <;> rfl) (by have := Hlen.out; omega) (by simp; omega) ?_)
            intro a9 n9 c9 w9 hn9 ho9 hg9 hl9
            have hb9 : Below w1.heap.size w1 w9 := (hbb.alloc (by omega) _).grown hg9 (by simp; omega) (fun g hg => (HN3.out.row.1.lt g hg).1)
            have HO9 : Hid (OwnItems w9 w1.heap.size (.slice a9 n9 c9) ((L.take (k + 1)).map lineItem)) := Lib.hid (by
              have h := nest_snoc (x := (⟨nm, dg⟩ : Item)) (hi := w2.heap.size) (NestIn.more (HN3.out.below (go_below_alloc _ _)) hs2) (HI.out.below (go_below_alloc _ _)) (by omega) ⟨_, _, _, rfl⟩ Hnm.out (by simp; omega) ho9 hg9 (by simpa using hl9)
              rw [Hps.out] at h
              rw [HT.out, HIt.out]
              exact h)
            clear ho9 hg9 hl9 hn9 HN HN3 HI Hps
            go_wp2
            exact ⟨⟨k + 1, a9, n9, c9, by go_num, hlt, rfl, HO9, HG3, hb9⟩, by simp [intOf]; omega⟩
        · have hq := HQ1.out
          unfold cutV at hq
          rw [HtC.out, if_neg (by rw [hsz]; exact hf)] at hq
          have HQ2 := Lib.hid hq
          have HX := Lib.hid (HBad.out (by unfold lineOk; rw [decide_eq_false hf]; rfl))
          have HR := Lib.hid (fun W => readPattern_c ByteArray.empty W (by decide))
          clear hq HQ1 hf hpin hpl hsz hts HtC HBad HG2 HT
          generalize strOfNums p = tx at *
          go_wp2_with fail
          refine HQ2.out.mono ?_
          rintro e w2 ⟨rfl, hb2⟩
          go_wp2_with fail
          refine (HR.out _).mono ?_
          rintro e w3 ⟨a3, n3, c3, rfl, ho3, hb3⟩
          clear ho3
          go_wp2
          go_ret2
          exact GivesItemsB.none (readL_no HX.out) HX.out (bthen hb1 (bthen hb (bthen hb2 hb3)))
      · obtain rfl : k = n1 := by omega
        have HE := Lib.hid (HAll.out (fun j hj => HG.out j (by rw [Hn.out]; exact hj)))
        have HO2 : Hid (OwnItems wr w1.heap.size (.slice a' n' c') (L.map lineItem)) := Lib.hid (by
          have h := HO.out
          rwa [List.take_of_length_le (by rw [Hn.out]; exact Nat.le_refl _)] at h)
        have HV := Lib.hid (iValidItems_c (.slice a' n' c') (L.map lineItem) wr (OwnItems.at HO2.out))
        rw [← HE.out] at HV
        clear HO HE HG HAll HNo
        have hs1 := hb1.size
        cases hR : readOk cs
        · rw [hR] at HV
          have HX := Lib.hid hR
          clear hR
          go_wp2_with fail
          refine HV.out.mono ?_
          rintro e w2 ⟨rfl, hb2⟩
          go_wp2
          go_ret2
          exact GivesItemsB.none (readL_no HX.out) HX.out (bthen hb1 (bthen hb hb2))
        · rw [hR] at HV
          have HX := Lib.hid (HYes.out hR)
          have HX2 := Lib.hid hR
          clear hR
          go_wp2_with fail
          refine HV.out.mono ?_
          rintro e w2 ⟨rfl, hb2⟩
          go_wp2
          go_ret2
          exact GivesItemsB.mk HX2.out (by rw [HX.out]; exact OwnItems.mono (OwnNest.below HO2.out hb2) hs1) (bthen hb1 (bthen hb hb2))
theorem nth_dropLast {α : Type} [Inhabited α] (l : List α) (k : Nat) (h : k + 1 < l.length) : nth l.dropLast k = nth l k := by
  rw [nth_eq _ _ (by rw [List.length_dropLast]; omega), nth_eq _ _ (by omega), List.getElem_dropLast]
theorem linesOk_last {cs : List Int} : linesOk cs = (nth (splitL 10 cs) ((splitL 10 cs).length - 1) == []) := by
  unfold linesOk
  have h := splitL_ne 10 cs
  have hl := List.length_pos_iff.2 h
  rw [List.getLast?_eq_getElem?, List.getElem?_eq_getElem (by omega), nth_eq _ _ (by omega)]
  rfl
theorem linesL_eq {cs : List Int} (h : linesOk cs = true) : linesL cs = (splitL 10 cs).dropLast := by unfold linesL; rw [if_pos h]
set_option maxRecDepth 100000 in
set_option maxHeartbeats 4000000 in
theorem sReadItems_c (s : ByteArray) (w : World) (hs : s.size ≤ 1048576) : Calls Tryz.prog 30 #[.string s] w (GivesItemsB (readL (chars s)) (readOk (chars s)) w) := by
  have HQ := Lib.hid (l01Split_c s 10 w hs)
  have hcl : (chars s).length ≤ 1048576 := by rw [chars_len]; exact hs
  have Hin := Lib.hid (chars_in s)
  generalize chars s = cs at *
  have hSc := split_count 10 cs
  have hpos : 0 < (splitL 10 cs).length := List.length_pos_iff.2 (splitL_ne 10 cs)
  have hlast := linesOk_last (cs := cs)
  have Hsp : Hid (∀ p ∈ splitL 10 cs, p.length ≤ 1048576 ∧ ∀ x ∈ p, 0 ≤ x ∧ x ≤ 255) := Lib.hid (fun p hm => ⟨Nat.le_trans (split_len1 10 cs _ hm) hcl, fun x hx => Hin.out x (split_mem 10 cs _ hm x hx)⟩)
  have HLN := Lib.hid (fun h => readOk_lines (cs := cs) h)
  have HEq := Lib.hid (fun h => linesL_eq (cs := cs) h)
  generalize hSL : splitL 10 cs = SL at *
  clear hSL
  go_enter Tryz.func30, Tryz.ntmps30
  go_wp2_with fail
  refine HQ.out.mono ?_
  rintro e w1 ⟨a1, m, c1, rfl, ho1, hb1⟩
  obtain ⟨ax, nx, cx, he, hn1, -, -, hS⟩ := OwnStrs.at ho1
  cases he
  rw [List.length_map] at hn1
  have HS := Lib.hid hS
  have Hn := Lib.hid hn1
  clear ho1 hS HQ
  have hm1 : 1 ≤ m := by omega
  have hm20 : m ≤ 1048577 := by omega
  have hw1 : IntKind.i64.wrap ((m : Int) - 1) = (m : Int) - 1 := IntWalk.i64_in _ (by omega)
  obtain ⟨b, o, rfl, hbs, c0⟩ := HS.out.at1 (m - 1) (by rw [← Hn.out]; omega)
  rw [← hn1] at hlast
  have hmm : m - 1 < m := by omega
  generalize hLa : nth SL (m - 1) = la at *
  have HLa := Lib.hid hLa
  clear hLa hn1 hpos hSc
  by_cases h0 : la = []
  · subst h0
    have HLO : Hid (linesOk cs = true) := Lib.hid (by rw [hlast]; rfl)
    have HLL : Hid (linesL cs = SL.dropLast) := Lib.hid (HEq.out HLO.out)
    have hll : SL.dropLast.length = m - 1 := by rw [List.length_dropLast, ← Hn.out]
    have he : (strOfNums []).toList.isEmpty = true := by rw [isEmpty_size, strOfNums_size]; rfl
    by_cases h61 : 61 < m
    · have HX : Hid (readOk cs = false) := Lib.hid (readOk_long (by rw [HLL.out, hll]; omega))
      have hd : decide ((61 : Int) < (m : Int)) = true := decide_eq_true (by omega)
      clear hlast hll
      generalize strOfNums [] = la at *
      go_wp2
      go_ret2
      exact GivesItemsB.none (readL_no HX.out) HX.out (hb1.alloc hb1.size _)
    · have hd : decide ((61 : Int) < (m : Int)) = false := decide_eq_false (by omega)
      have HNo : Hid (∀ k, k + 1 < m → lineOkS (nth SL k) = false → readOk cs = false) := Lib.hid (fun k hk h => readOk_badS (k := k) (by rw [HLL.out, hll]; omega) (by rw [HLL.out, nth_dropLast _ _ (by rw [← Hn.out]; exact hk)]; exact h))
      have HAll : Hid ((∀ k, k + 1 < m → lineOkS (nth SL k) = true) → readOk cs = okItems ((SL.take (m - 1)).map lineItem)) := Lib.hid (fun h => by
        rw [readOk_allS HLO.out (fun j hj => by
          rw [HLL.out, hll] at hj
          rw [HLL.out, nth_dropLast _ _ (by rw [← Hn.out]; omega)]
          exact h j (by omega)), HLL.out, List.dropLast_eq_take, ← Hn.out])
      have HYes : Hid (readOk cs = true → readL cs = (SL.take (m - 1)).map lineItem) := Lib.hid (fun h => by rw [readL_yes h, HLL.out, List.dropLast_eq_take, ← Hn.out])
      clear hlast hll
      generalize strOfNums [] = la at *
      go_wp2
      go_loopw [5, 6] (fun s i wr => ∃ (k : Nat) (a' : Option Addr) (n' c' : Nat), i = .int .i64 k ∧ k + 1 ≤ m ∧ s = .slice a' n' c' ∧ Hid (OwnItems wr w1.heap.size (.slice a' n' c') ((SL.take k).map lineItem)) ∧ Hid (∀ j, j < k → lineOkS (nth SL j) = true) ∧ Below w1.heap.size w1 wr) (fun _ i _ => m - 1 - (intOf i).toNat)
      case atStart => exact ⟨0, _, _, _, rfl, by omega, rfl, Lib.hid (own_items_empty w1), Lib.hid (fun j h => absurd h (Nat.not_lt_zero _)), by go_grown⟩
      case round =>
        obtain ⟨k, a', n', c', rfl, hk, rfl, HO, HG, hb⟩ := hrel
        by_cases hlt : k + 1 < m
        · have hd2 : decide ((k : Int) < (m : Int) - 1) = true := decide_eq_true (by omega)
          have hkl : k < SL.length := by rw [← Hn.out]; omega
          obtain ⟨b', o', he', -, c2⟩ := HS.out.at1 k hkl
          cases he'
          replace c2 := cell_then hbs c2 hb
          obtain ⟨hpl, hpin⟩ := Hsp.out _ (mem_nth hkl)
          have HBad := Lib.hid (HNo.out k hlt)
          have HT : Hid ((SL.take (k + 1)).map lineItem = (SL.take k).map lineItem ++ [lineItem (nth SL k)]) := Lib.hid (by rw [take_nth SL k hkl, List.map_append]; rfl)
          have HG2 : Hid (lineOkS (nth SL k) = true → ∀ j, j < k + 1 → lineOkS (nth SL j) = true) := Lib.hid (fun h j hj => by
            rcases Nat.lt_succ_iff_lt_or_eq.1 hj with h1 | rfl
            · exact HG.out j h1
            · exact h)
          have hk1 : k < m := by omega
          clear hkl HG
          generalize nth SL k = p at *
          have HtC : Hid (chars (strOfNums p) = p) := Lib.hid (chars_strOf hpin)
          have hts : (strOfNums p).size ≤ 1048576 := by rw [strOfNums_size]; exact hpl
          have HQ1 := Lib.hid (l01Split_c (strOfNums p) 32 wr hts)
          rw [HtC.out] at HQ1
          generalize strOfNums p = tx at *
          go_wp2_with fail
          refine HQ1.out.mono ?_
          rintro e w2 ⟨a2, n2, c2', rfl, ho2, hb2⟩
          obtain ⟨ax, nx, cx, he, hn2, -, -, hS2⟩ := OwnStrs.at ho2
          cases he
          rw [List.length_map] at hn2
          have hbb := bthen hb hb2
          have hro := World.ownsRow.lt ho2
          by_cases h2 : n2 = 2
          · subst h2
            obtain ⟨b2, o2, rfl, hbs2, d0⟩ := StrsC.at1 hS2 0 (by omega)
            obtain ⟨b3, o3, he3, -, d1⟩ := StrsC.at1 hS2 1 (by omega)
            cases he3
            have hlow : wr.heap.size ≤ b2 := (hro b2 rfl).1
            obtain ⟨hfd, hsp2⟩ := lineS_find hn2.symm
            have hin1 : ∀ x ∈ nth (splitL 32 p) 1, 0 ≤ x ∧ x ≤ 255 := fun x hx => hpin x (split_mem 32 p _ (mem_nth (by omega)) x hx)
            have hL1 : (nth (splitL 32 p) 1).length ≤ 1048576 := Nat.le_trans (split_len1 32 p _ (mem_nth (by omega))) hpl
            have hL0 : (nth (splitL 32 p) 0).length ≤ 1048576 := Nat.le_trans (split_len1 32 p _ (mem_nth (by omega))) hpl
            have HIt : Hid (lineItem p = ⟨strOfNums (nth (splitL 32 p) 0), (nth (splitL 32 p) 1).map hexN⟩) := Lib.hid (by rw [hsp2]; rfl)
            have hOk : lineOkS p = decide ((nth (splitL 32 p) 1).length ≤ 12) := by unfold lineOkS; rw [← hn2]; rfl
            rw [hOk] at HBad HG2
            have HDg : Hid (digsL (strOfNums (nth (splitL 32 p) 1)) = (nth (splitL 32 p) 1).map hexN) := Lib.hid (by unfold digsL; rw [chars_strOf hin1])
            have hsz1 : (strOfNums (nth (splitL 32 p) 1)).size = (nth (splitL 32 p) 1).length := strOfNums_size _
            have Hnm : Hid ((strOfNums (nth (splitL 32 p) 0)).size ≤ 9223372036854775807) := Lib.hid (by rw [strOfNums_size]; omega)
            clear hOk hin1 hsp2 hfd hn2 hS2 ho2 hro HQ1 HtC hpin hpl hL0
            generalize (nth (splitL 32 p) 1).map hexN = dg at *
            generalize (nth (splitL 32 p) 1).length = len1 at *
            generalize strOfNums (nth (splitL 32 p) 1) = t1 at *
            generalize strOfNums (nth (splitL 32 p) 0) = t0 at *
            rw [Nat.add_zero] at d0
            by_cases h12 : len1 ≤ 12
            · have hd12 : decide ((12 : Int) < (t1.size : Int)) = false := decide_eq_false (by omega)
              have HG3 := Lib.hid (HG2.out (decide_eq_true h12))
              have hts1 : t1.size ≤ 1048576 := by omega
              have HR := Lib.hid (fun W => l02Read_c t1 W hts1)
              rw [HDg.out] at HR
              obtain ⟨ps, hps, hN⟩ := InNest.of HO.out
              have hlen : ps.length = k := by have := congrArg List.length hps; rw [List.length_map, List.length_map, List.length_take, ← Hn.out] at this; omega
              have HN := Lib.hid hN
              have HN2 := Lib.hid (HN.out.below hb2)
              have Hps := Lib.hid hps
              have Hlen := Lib.hid hlen
              clear hN hps hlen HBad HG2 HDg
              go_wp2
              refine wp_region_held_drew (S := fun w' => Below w1.heap.size w1 w' ∧ w'.cell? ⟨b2, o2, none⟩ = some (.string t0) ∧ w'.cell? ⟨b2, o2 + 1, none⟩ = some (.string t1)) (by kernel_rfl) (by exact ⟨hbb.drew, d0, d1⟩) (fun hHeld => ?_)
              refine wpAnyH_take (i := 0) (oi := ⟨_, _, _, _, _, _⟩) (v := ?_) rfl (by kernel_rfl) (by kernel_rfl) (by kernel_rfl) (fun _ _ _ h => h) (Or.inl ⟨by rfl, ?_⟩) (by assumption) ?_; rotate_left; (focus (intro w hSw; (try dsimp only at hSw); go_simp; try with_reducible rfl)); (try simp only [Act.put, List.setIfInBounds_toArray, List.set_cons_zero, List.set_cons_succ])
              refine wpAnyH_take (i := 1) (oi := ⟨_, _, _, _, _, _⟩) (v := ?_) rfl (by kernel_rfl) (by kernel_rfl) (by kernel_rfl) (fun _ _ _ h => h) (Or.inl ⟨by rfl, ?_⟩) (by assumption) ?_; rotate_left; (focus (intro w hSw; (try dsimp only at hSw); go_simp; try with_reducible rfl)); (try simp only [Act.put, List.setIfInBounds_toArray, List.set_cons_zero, List.set_cons_succ])
              refine wpAnyH_take (i := 2) (oi := ⟨_, _, _, _, _, _⟩) (v := ?_) rfl (by kernel_rfl) (by kernel_rfl) (by kernel_rfl) (fun _ _ _ h => h) (Or.inl ⟨by rfl, ?_⟩) (by assumption) ?_; rotate_left; (focus (intro w hSw; (try dsimp only at hSw); go_simp; try with_reducible rfl)); (try simp only [Act.put, List.setIfInBounds_toArray, List.set_cons_zero, List.set_cons_succ])
              refine wpAnyH_take (i := 3) (oi := ⟨_, _, _, _, _, _⟩) (v := ?_) rfl (by kernel_rfl) (by kernel_rfl) (by kernel_rfl) (fun _ _ _ h => h) (Or.inl ⟨by rfl, ?_⟩) (by assumption) ?_; rotate_left; (focus (intro w hSw; (try dsimp only at hSw); obtain ⟨_, q0, q1⟩ := hSw; go_simp; try with_reducible rfl)); (try simp only [Act.put, List.setIfInBounds_toArray, List.set_cons_zero, List.set_cons_succ])
              refine wpAnyH_take (i := 4) (oi := ⟨_, _, _, _, _, _⟩) (v := ?_) rfl (by kernel_rfl) (by kernel_rfl) (by kernel_rfl) (fun _ _ _ h => h) (Or.inl ⟨by rfl, ?_⟩) (by assumption) ?_; rotate_left; (focus (intro w hSw; (try dsimp only at hSw); go_simp; try with_reducible rfl)); (try simp only [Act.put, List.setIfInBounds_toArray, List.set_cons_zero, List.set_cons_succ])
              refine wpAnyH_take (i := 5) (oi := ⟨_, _, _, _, _, _⟩) (v := ?_) rfl (by kernel_rfl) (by kernel_rfl) (by kernel_rfl) (fun _ _ _ h => h) (Or.inl ⟨by rfl, ?_⟩) (by assumption) ?_; rotate_left; (focus (intro w hSw; (try dsimp only at hSw); go_simp; try with_reducible rfl)); (try simp only [Act.put, List.setIfInBounds_toArray, List.set_cons_zero, List.set_cons_succ])
              refine wpAnyH_take (i := 6) (oi := ⟨_, _, _, _, _, _⟩) (v := ?_) rfl (by kernel_rfl) (by kernel_rfl) (by kernel_rfl) (fun _ _ _ h => h) (Or.inl ⟨by rfl, ?_⟩) (by assumption) ?_; rotate_left; (focus (intro w hSw; (try dsimp only at hSw); obtain ⟨_, q0, q1⟩ := hSw; go_simp; try with_reducible rfl)); (try simp only [Act.put, List.setIfInBounds_toArray, List.set_cons_zero, List.set_cons_succ])
              refine wpAnyH_ready (rs := [7]) (by kernel_rfl) (by simp) ?_
              refine AllReadyH.cons (o := ⟨_, _, _, _, _, _⟩) rfl (fun K hK => ?_) AllReadyH.nil
              go_simp
              go_at_call 77; (with_reducible refine (HR.out _).mono ?_); rintro e x1 ⟨a3, n3, c3, rfl, o1, x2⟩; have hd1 := below_of_drew x2; have HI : Hid (InInts x1 w2.heap.size x1.heap.size (.slice a3 n3 c3) dg) := Lib.hid (InInts.of o1); have HN3 := Lib.hid (HN2.out.below hd1); have hS' : Below w1.heap.size w1 x1 ∧ x1.cell? ⟨b2, o2, none⟩ = some (.string t0) ∧ x1.cell? ⟨b2, o2 + 1, none⟩ = some (.string t1) := ⟨bthen hHeld.1 x2, cell_then hbs2 d0 hd1, cell_then hbs2 d1 hd1⟩; clear o1 x2
              refine hK.out _ _ (by exact hS') (fun hHeld' => ?_)
              clear hHeld hK K
              have hHeld := hHeld'
              clear hHeld'
              try simp only [Act.put, List.setIfInBounds_toArray, List.set_cons_zero, List.set_cons_succ]
              refine wpAnyH_take (i := 8) (oi := ⟨_, _, _, _, _, _⟩) (v := ?_) rfl (by kernel_rfl) (by kernel_rfl) (by kernel_rfl) (fun _ _ _ h => h) (Or.inl ⟨by rfl, ?_⟩) (by assumption) ?_; rotate_left; (focus (intro w hSw; (try dsimp only at hSw); go_simp; try with_reducible rfl)); (try simp only [Act.put, List.setIfInBounds_toArray, List.set_cons_zero, List.set_cons_succ])
              refine wpAnyH_ready (rs := [9]) (by kernel_rfl) (by simp) ?_
              refine AllReadyH.cons (o := ⟨_, _, _, _, _, _⟩) rfl (fun K hK => ?_) AllReadyH.nil
              go_simp
              refine hK.out _ _ (by exact ⟨hHeld.1.alloc hHeld.1.size _, cell_alloc hHeld.2.1 _, cell_alloc hHeld.2.2 _⟩) (fun hHeld' => ?_)
              clear hHeld hK K
              have hHeld := hHeld'
              clear hHeld'
              try simp only [Act.put, List.setIfInBounds_toArray, List.set_cons_zero, List.set_cons_succ]
              refine wpAnyH_ready (rs := [10]) (by kernel_rfl) (by simp) ?_
              refine AllReadyH.cons (o := ⟨_, _, _, _, _, _⟩) rfl (fun K hK => ?_) AllReadyH.nil
              refine step_app_items rfl _ _ rfl w1.heap.size _ ps.length _ rfl (HN3.out.below (go_below_alloc _ _)).row.1 _ 1 1 [.string t0, .slice a3 n3 c3] rfl (item_new _ _ _ _) (by intro u hu; simp at hu; rcases hu with rfl | rfl <;> rfl) (by have := Hlen.out; omega) (by have := hS'.1.size; simp; omega) ?_; intro a6 n6 c6 w6 ho6 hg6 hl6; have hS' : Below w1.heap.size w1 w6 ∧ w6.cell? ⟨b2, o2, none⟩ = some (.string t0) ∧ w6.cell? ⟨b2, o2 + 1, none⟩ = some (.string t1) := ⟨hHeld.1.grown hg6 hHeld.1.size (fun g hg => (HN.out.row.1.lt g hg).1), cell_grown hHeld.2.1 hg6 (fun e => by have := (HN.out.row.1.lt _ e).2; omega), cell_grown hHeld.2.2 hg6 (fun e => by have := (HN.out.row.1.lt _ e).2; omega)⟩
              refine hK.out _ _ (by exact hS') (fun hHeld' => ?_)
              clear hHeld hK K
              have hHeld := hHeld'
              clear hHeld'
              try simp only [Act.put, List.setIfInBounds_toArray, List.set_cons_zero, List.set_cons_succ]
              refine wpAnyH_take (i := 11) (oi := ⟨_, _, _, _, _, _⟩) (v := ?_) rfl (by kernel_rfl) (by kernel_rfl) (by kernel_rfl) (fun _ _ _ h => h) (Or.inl ⟨by rfl, ?_⟩) (by assumption) ?_; rotate_left; (focus (intro w hSw; (try dsimp only at hSw); go_simp; try with_reducible rfl)); (try simp only [Act.put, List.setIfInBounds_toArray, List.set_cons_zero, List.set_cons_succ])
              refine wpAnyH_done (by kernel_rfl) ?_ _
              have HO6 : Hid (OwnItems w6 w1.heap.size (.slice a6 n6 c6) ((SL.take (k + 1)).map lineItem)) := Lib.hid (by
                have h := nest_snoc (x := (⟨t0, dg⟩ : Item)) (hi := w2.heap.size) (NestIn.more (HN3.out.below (go_below_alloc _ _)) hb2.size) (HI.out.below (go_below_alloc _ _)) hbb.size ⟨_, _, _, rfl⟩ Hnm.out (by have := hd1.size; simp; omega) ho6 hg6 hl6
                rw [Hps.out] at h
                rw [HT.out, HIt.out]
                exact h)
              clear ho6 hg6 hl6
              have hb7 := hHeld.1
              clear hHeld
              go_wp2
              exact ⟨⟨k + 1, a6, n6, c6, by go_num, hlt, rfl, HO6, HG3, hb7⟩, by simp [intOf]; omega⟩
            · have hd12 : decide ((12 : Int) < (t1.size : Int)) = true := decide_eq_true (by omega)
              have HX := Lib.hid (HBad.out (decide_eq_false h12))
              clear HBad HG2
              go_wp2
              go_ret2
              exact GivesItemsB.none (readL_no HX.out) HX.out (bthen hb1 hbb)
          · have hne : ((n2 : Int) != 2) = true := by simpa using (show ¬ (n2 : Int) = 2 by omega)
            have HX := Lib.hid (HBad.out (by unfold lineOkS; rw [← hn2, decide_eq_false h2]; rfl))
            clear HBad HG2 h2 hro ho2 hS2 hn2
            go_wp2
            go_ret2
            exact GivesItemsB.none (readL_no HX.out) HX.out (bthen hb1 hbb)
        · have hd2 : decide ((k : Int) < (m : Int) - 1) = false := decide_eq_false (by omega)
          have hkm : m - 1 = k := by omega
          rw [hkm] at HAll HYes
          have HE := Lib.hid (HAll.out (fun j hj => HG.out j (by omega)))
          have HV := Lib.hid (l22Ok_c (.slice a' n' c') ((SL.take k).map lineItem) wr (OwnItems.at HO.out))
          rw [← HE.out] at HV
          clear HE HG HAll HNo hkm
          have hs1 := hb1.size
          cases hR : readOk cs
          · rw [hR] at HV
            have HX := Lib.hid hR
            clear hR
            go_wp2_with fail
            refine HV.out.mono ?_
            rintro e w2 ⟨rfl, hb2⟩
            go_wp2
            go_ret2
            exact GivesItemsB.none (readL_no HX.out) HX.out (bthen hb1 (bthen hb hb2))
          · rw [hR] at HV
            have HX := Lib.hid (HYes.out hR)
            have HX2 := Lib.hid hR
            clear hR
            go_wp2_with fail
            refine HV.out.mono ?_
            rintro e w2 ⟨rfl, hb2⟩
            go_wp2
            go_ret2
            exact GivesItemsB.mk HX2.out (by rw [HX.out]; exact OwnItems.mono (OwnNest.below HO.out hb2) hs1) (bthen hb1 (bthen hb hb2))
  · have he : (strOfNums la).toList.isEmpty = false := by
      rw [isEmpty_size, strOfNums_size]
      exact decide_eq_false (fun h => h0 (List.eq_nil_of_length_eq_zero h))
    have HX : Hid (readOk cs = false) := Lib.hid (HLN.out (by
      rw [hlast]
      cases la with
      | nil => exact absurd rfl h0
      | cons x y => rfl))
    clear hlast h0
    generalize strOfNums la = la' at *
    go_wp2
    go_ret2
    exact GivesItemsB.none (readL_no HX.out) HX.out (hb1.alloc hb1.size _)
end Go.Proofs.YtcgbdhbdlnimhaaGreat
