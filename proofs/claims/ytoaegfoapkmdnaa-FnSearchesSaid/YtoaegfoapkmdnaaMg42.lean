import Derived.Test.YtoaegfoapkmdnaaMg28
import Derived.Test.YtoaegfoapkmdnaaMg11
import Derived.Deep.RegionHeld3
import Derived.Test.YtoaegfoapkmdnaaMg17
/- Count: CountFound and QueryVisits, walked in both packages; their laws' rows. -/
namespace Go.Proofs.Ytoaegfoapkmdnaa
open Go.ChangeShapes Go.WideShapes Go.ChangeAt Go.RowKit

def countI (q : Query) : Int := if searchCode q = 0 then ((treeR q).2.length : Int) else 0
def visitsI (q : Query) : Int := if searchCode q = 0 then ((treeR q).1 : Int) else 0
set_option maxRecDepth 100000 in
set_option maxHeartbeats 2000000 in
theorem sCountFound_c (q : Query) (y z : Value) (w : World) (hQ : QAt w q y z) :
    Calls Try.prog 9 #[.agg #[.int .i64 q.period, .int .i64 q.props, .int .i64 q.high, y, z, .bool q.canonical]] w (Gives (.tuple #[.int .i64 (countI q), .int .i64 (searchCode q)]) w) := by
  have HQ := Lib.hid hQ; clear hQ
  go_enter Try.func9, Try.ntmps9
  go_wp2_with fail
  refine (l21All_c q y z w.heap.size _ (BoxIs.new w _ _) (HQ.out.below (by go_grown))).mono ?_
  rintro e w1 ⟨hb1, ⟨hm, p, rfl⟩ | ⟨hm, b, rfl, hc⟩⟩
  · have HC := Lib.hid (searchCode_1 hm)
    have hb := bthen (by go_grown : Below w.heap.size w _) hb1
    clear hm
    go_wp2
    go_ret2
    exact Gives.ii (by unfold countI; rw [HC.out]; rfl) HC.out hb
  · have hb := bthen (by go_grown : Below w.heap.size w _) hb1
    have HCC := Lib.hid hc
    clear hc
    by_cases h0 : searchCode q = 0
    · have HC := Lib.hid h0
      obtain ⟨c4, c8⟩ := HCC.out h0
      rw [h0]
      clear h0 hm
      go_wp2
      go_ret2
      exact Gives.ii (by unfold countI; rw [if_pos HC.out]) HC.out hb
    · have HC := Lib.hid h0
      have hne : (searchCode q == 0) = false := beq_eq_false_iff_ne.2 h0
      generalize hs : searchCode q = s at *
      clear h0 hm
      go_wp2
      go_ret2
      exact Gives.ii (by unfold countI; rw [hs, if_neg HC.out]) rfl hb
set_option maxRecDepth 100000 in
set_option maxHeartbeats 2000000 in
theorem iCountFound_c (q : Query) (y z : Value) (w : World) (hQ : QAt w q y z) :
    Calls Try.prog 8 #[.agg #[.int .i64 q.period, .int .i64 q.props, .int .i64 q.high, y, z, .bool q.canonical]] w (Gives (.tuple #[.int .i64 (countI q), .int .i64 (searchCode q)]) w) := by
  have HQ := Lib.hid hQ; clear hQ
  have HK1 := Lib.hid (fun W x => iValidQuery_c q y z W x)
  have HK2 := Lib.hid (fun W x h => searched_c q y z W x h)
  generalize hm : okQueryB q = m at *
  cases m
  · have HC := Lib.hid (searchCode_1 hm)
    clear hm HK2
    go_enter Try.func8, Try.ntmps8
    go_wp2_with fail
    refine (HK1.out _ (HQ.out.below (by go_grown))).mono ?_
    rintro e w1 ⟨rfl, hb1⟩
    have hb := bthen (by go_grown : Below w.heap.size w _) hb1
    go_wp2
    go_ret2
    exact Gives.ii (by unfold countI; rw [HC.out]; rfl) HC.out hb
  · have HO := Lib.hid hm
    clear hm
    go_enter Try.func8, Try.ntmps8
    go_wp2_with fail
    refine (HK1.out _ (HQ.out.below (by go_grown))).mono ?_
    rintro e w1 ⟨rfl, hb1⟩
    have hb := bthen (by go_grown : Below w.heap.size w _) hb1
    have HB := Lib.hid ((BoxIs.new w [.int .i64 q.period, .int .i64 q.props, .int .i64 q.high, y, z, .bool q.canonical] 26).below hb1)
    obtain ⟨e0, f0⟩ := HB.out.cells
    go_wp2_with fail
    refine (HK2.out _ (HQ.out.below hb) trivial).mono ?_
    rintro e w2 ⟨hb2, ⟨hv, rfl⟩ | ⟨hv, b, lv, fv, ps, rfl, hI, hF⟩⟩
    · have HC : Hid (searchCode q = 5) := Lib.hid (searchCode_5 HO.out (by
        rcases Nat.lt_or_ge 20000 (treeR q).1 with h | h
        · exact h
        · have := search_tree.1 h; rw [this] at hv; dsimp only at hv; omega))
      clear hv HK1 HK2 HB e0 f0
      go_wp2
      go_ret2
      exact Gives.ii (by unfold countI; rw [HC.out]; rfl) HC.out (bthen hb hb2)
    · have ht : (treeR q).1 ≤ 20000 := by
        rcases Nat.lt_or_ge 20000 (treeR q).1 with h | h
        · have := search_tree.2 h; omega
        · exact h
      have HC : Hid (searchCode q = 0) := Lib.hid (searchCode_0 HO.out ht)
      have hS := search_tree.1 ht
      have c20 := hI.box.c20; obtain ⟨fa, fn, fc, rfl⟩ := hI.fs; have hfn : fn = (treeR q).2.length := (by have h := congrArg List.length hF; rw [List.length_map, hS] at h; obtain ⟨_, _, e⟩ := slice_of_own hI.row; injection e with _ e2 _; exact e2.trans h); rw [hfn] at c20; clear hfn
      clear hv HK1 HK2 HB e0 f0 hI hF hS ht
      go_wp2
      go_ret2
      exact Gives.ii (by unfold countI; rw [if_pos HC.out]) HC.out (bthen hb hb2)
set_option maxRecDepth 100000 in
set_option maxHeartbeats 2000000 in
theorem sQueryVisits_c (q : Query) (y z : Value) (w : World) (hQ : QAt w q y z) :
    Calls Try.prog 11 #[.agg #[.int .i64 q.period, .int .i64 q.props, .int .i64 q.high, y, z, .bool q.canonical]] w (Gives (.tuple #[.int .i64 (visitsI q), .int .i64 (searchCode q)]) w) := by
  have HQ := Lib.hid hQ; clear hQ
  go_enter Try.func11, Try.ntmps11
  go_wp2_with fail
  refine (l21All_c q y z w.heap.size _ (BoxIs.new w _ _) (HQ.out.below (by go_grown))).mono ?_
  rintro e w1 ⟨hb1, ⟨hm, p, rfl⟩ | ⟨hm, b, rfl, hc⟩⟩
  · have HC := Lib.hid (searchCode_1 hm)
    have hb := bthen (by go_grown : Below w.heap.size w _) hb1
    clear hm
    go_wp2
    go_ret2
    exact Gives.ii (by unfold visitsI; rw [HC.out]; rfl) HC.out hb
  · have hb := bthen (by go_grown : Below w.heap.size w _) hb1
    have HCC := Lib.hid hc
    clear hc
    by_cases h0 : searchCode q = 0
    · have HC := Lib.hid h0
      obtain ⟨c4, c8⟩ := HCC.out h0
      rw [h0]
      clear h0 hm
      go_wp2
      go_ret2
      exact Gives.ii (by unfold visitsI; rw [if_pos HC.out]) HC.out hb
    · have HC := Lib.hid h0
      have hne : (searchCode q == 0) = false := beq_eq_false_iff_ne.2 h0
      generalize hs : searchCode q = s at *
      clear h0 hm
      go_wp2
      go_ret2
      exact Gives.ii (by unfold visitsI; rw [hs, if_neg HC.out]) rfl hb
set_option maxRecDepth 100000 in
set_option maxHeartbeats 2000000 in
theorem iQueryVisits_c (q : Query) (y z : Value) (w : World) (hQ : QAt w q y z) :
    Calls Try.prog 10 #[.agg #[.int .i64 q.period, .int .i64 q.props, .int .i64 q.high, y, z, .bool q.canonical]] w (Gives (.tuple #[.int .i64 (visitsI q), .int .i64 (searchCode q)]) w) := by
  have HQ := Lib.hid hQ; clear hQ
  have HK1 := Lib.hid (fun W x => iValidQuery_c q y z W x)
  have HK2 := Lib.hid (fun W x h => searched_c q y z W x h)
  generalize hm : okQueryB q = m at *
  cases m
  · have HC := Lib.hid (searchCode_1 hm)
    clear hm HK2
    go_enter Try.func10, Try.ntmps10
    go_wp2_with fail
    refine (HK1.out _ (HQ.out.below (by go_grown))).mono ?_
    rintro e w1 ⟨rfl, hb1⟩
    have hb := bthen (by go_grown : Below w.heap.size w _) hb1
    go_wp2
    go_ret2
    exact Gives.ii (by unfold visitsI; rw [HC.out]; rfl) HC.out hb
  · have HO := Lib.hid hm
    clear hm
    go_enter Try.func10, Try.ntmps10
    go_wp2_with fail
    refine (HK1.out _ (HQ.out.below (by go_grown))).mono ?_
    rintro e w1 ⟨rfl, hb1⟩
    have hb := bthen (by go_grown : Below w.heap.size w _) hb1
    have HB := Lib.hid ((BoxIs.new w [.int .i64 q.period, .int .i64 q.props, .int .i64 q.high, y, z, .bool q.canonical] 26).below hb1)
    obtain ⟨e0, f0⟩ := HB.out.cells
    go_wp2_with fail
    refine (HK2.out _ (HQ.out.below hb) trivial).mono ?_
    rintro e w2 ⟨hb2, ⟨hv, rfl⟩ | ⟨hv, b, lv, fv, ps, rfl, hI, hF⟩⟩
    · have HC : Hid (searchCode q = 5) := Lib.hid (searchCode_5 HO.out (by
        rcases Nat.lt_or_ge 20000 (treeR q).1 with h | h
        · exact h
        · have := search_tree.1 h; rw [this] at hv; dsimp only at hv; omega))
      clear hv HK1 HK2 HB e0 f0
      go_wp2
      go_ret2
      exact Gives.ii (by unfold visitsI; rw [HC.out]; rfl) HC.out (bthen hb hb2)
    · have ht : (treeR q).1 ≤ 20000 := by
        rcases Nat.lt_or_ge 20000 (treeR q).1 with h | h
        · have := search_tree.2 h; omega
        · exact h
      have HC : Hid (searchCode q = 0) := Lib.hid (searchCode_0 HO.out ht)
      have hS := search_tree.1 ht
      have c19 := hI.box.c19; rw [hS] at c19; dsimp only at c19
      clear hv HK1 HK2 HB e0 f0 hI hF hS ht
      go_wp2
      go_ret2
      exact Gives.ii (by unfold visitsI; rw [if_pos HC.out]) HC.out (bthen hb hb2)
end Go.Proofs.Ytoaegfoapkmdnaa

/- Match3: the law FnExactMatchesQuery. -/
namespace Go.Proofs.Ytoaegfoapkmdnaa
open Go.ChangeShapes Go.WideShapes Go.ChangeAt Go.RowKit

set_option maxHeartbeats 2000000 in
theorem iMatchesQuery_c (q : Query) (y z v : Value) (p : List Int) (w : World) (hQ : QAt w q y z) (hv : IntsAt w v p) :
    Calls Try.prog 17 #[.agg #[.int .i64 q.period, .int .i64 q.props, .int .i64 q.high, y, z, .bool q.canonical], v] w (Gives (.bool (mqB q p)) w) := by
  have HK1 := Lib.hid (fun W x => iValidQuery_c q y z W x)
  have HK2 := Lib.hid (fun W x => validPattern_c v p W x)
  have HK3 := Lib.hid (fun W x h ho => matches_c q y z v p W x h ho)
  have HQ := Lib.hid hQ
  have HP := Lib.hid hv
  have HM := Lib.hid (show mqB q p = (okQueryB q && (okPat p && matchB q p)) from rfl)
  clear hQ hv
  generalize matchB q p = m3 at *
  generalize okQueryB q = m1 at *
  generalize hm2 : okPat p = m2 at *
  cases m1
  · have HR : Hid (mqB q p = false) := Lib.hid HM.out
    go_enter Try.func17, Try.ntmps17
    go_wp2_with fail
    refine (HK1.out _ (HQ.out.below (by go_grown))).mono ?_
    rintro e w1 ⟨rfl, hb1⟩
    go_wp2
    go_ret
    exact Gives.bool HR.out (bthen (by go_grown : Below w.heap.size w _) hb1)
  · cases m2
    · have HR : Hid (mqB q p = false) := Lib.hid HM.out
      clear hm2
      go_enter Try.func17, Try.ntmps17
      go_wp2_with fail
      refine (HK1.out _ (HQ.out.below (by go_grown))).mono ?_
      rintro e w1 ⟨rfl, hb1⟩
      have hb := bthen (by go_grown : Below w.heap.size w _) hb1
      go_wp2_with fail
      refine (HK2.out _ (HP.out.below hb)).mono ?_
      rintro e w2 ⟨rfl, hb2⟩
      go_wp2
      go_ret
      exact Gives.bool HR.out (bthen hb hb2)
    · have HR : Hid (mqB q p = m3) := Lib.hid HM.out
      have HO := Lib.hid hm2
      clear hm2
      go_enter Try.func17, Try.ntmps17
      go_wp2_with fail
      refine (HK1.out _ (HQ.out.below (by go_grown))).mono ?_
      rintro e w1 ⟨rfl, hb1⟩
      have hb := bthen (by go_grown : Below w.heap.size w _) hb1
      have HB := Lib.hid ((BoxIs.new w [.int .i64 q.period, .int .i64 q.props, .int .i64 q.high, y, z, .bool q.canonical] 26).below hb1)
      go_wp2_with fail
      refine (HK2.out _ (HP.out.below hb)).mono ?_
      rintro e w2 ⟨rfl, hb2⟩
      have hb' := bthen hb hb2
      obtain ⟨e0, f0⟩ := (HB.out.below hb2).cells
      go_wp2_with fail
      refine (HK3.out _ (HQ.out.below hb') (HP.out.below hb') trivial).mono ?_
      rintro e w3 ⟨rfl, hb3⟩
      go_wp2
      go_ret
      exact Gives.bool HR.out (bthen hb' hb3)
end Go.Proofs.Ytoaegfoapkmdnaa
