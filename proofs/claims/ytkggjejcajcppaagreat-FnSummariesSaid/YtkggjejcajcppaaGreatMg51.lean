import Derived.Test.YtkggjejcajcppaaGreatMg50
/- DrawA3: attempts and a pattern, drawn. -/
namespace Go.Proofs.YtkggjejcajcppaaGreat
open Go.ChangeShapes Go.WideShapes Go.ChangeAt Go.RowKit

/-- Attempts and a pattern, drawn from bytes. -/
def DrawnAP (w : World) (e : Ending) (w' : World) : Prop := ∃ (a : Option Addr) (m c : Nat) (l : List Att) (a2 : Option Addr) (m2 c2 : Nat) (p : List Int), e = .returned (.tuple #[.slice a m c, .slice a2 m2 c2]) ∧ l.length ≤ 150 ∧ AttsAt w' (.slice a m c) l ∧ IntsAt w' (.slice a2 m2 c2) p ∧ Below w.heap.size w w'
set_option maxRecDepth 100000 in
set_option maxHeartbeats 2000000 in
theorem l24Both_c (v : Value) (cs : List Int) (w : World) (hv : BytesAt w v cs) (hin : ∀ x ∈ cs, 0 ≤ x ∧ x ≤ 255) (hl : cs.length ≤ 4096) : Calls Tryz.prog 17 #[v] w (DrawnAP w) := by
  have HV := Lib.hid hv
  have Hin := Lib.hid hin
  have Hcl := Lib.hid hl
  clear hv hin hl
  go_enter Tryz.func17, Tryz.ntmps17
  go_wp2_with fail
  refine (l00From_c v cs w HV.out Hin.out Hcl.out).mono ?_
  rintro e w1 ⟨rfl, hsrc, hb1⟩
  have hs1 := hb1.size
  have hbl := hsrc.lt
  have HB1 := Lib.hid hb1
  have HS := Lib.hid hsrc
  clear hsrc hb1
  generalize hB : w.heap.size = b at *
  have HhB := Lib.hid hB
  clear hB
  go_wp2_with fail
  refine (l24Bent_c b 0 w1 HS.out (by omega)).mono ?_
  rintro e w2 ⟨a, m, c, l, rfl, hl, ho, hd⟩
  have Hl := Lib.hid hl
  have HO := Lib.hid ho
  have HD := Lib.hid hd
  clear hl ho hd HS
  go_wp2_with fail
  refine (one_c b _ 16 _ HD.out.1 (by omega) (by omega)).mono ?_
  rintro e w3 ⟨d, rfl, hd⟩
  replace HO := Lib.hid (nest_drew HO.out hd hbl)
  replace HD := Lib.hid (HD.out.trans hd)
  clear hd
  cases d
  · go_wp2_with fail
    refine (l24Pattern_c b _ w3 HD.out.1 (by omega)).mono ?_
    rintro e w4 ⟨a2, m2, c2, x, rfl, -, ho, hd⟩
    have HD2 := Lib.hid (HD.out.trans hd)
    have H1 := Lib.hid (OwnNest.at (nest_drew HO.out hd hbl))
    have H2 := Lib.hid (OwnInts.at ho)
    have H3 : Hid (Below w.heap.size w w4) := Lib.hid (by rw [HhB.out]; exact HB1.out.trans (HD2.out.below hs1))
    clear ho hd HO HD HD2
    go_wp2
    go_ret2
    exact ⟨a, m, c, l, a2, m2, c2, x, rfl, Hl.out, H1.out, H2.out, H3.out⟩
  · go_wp2_with fail
    refine (l02Bent_c b _ w3 HD.out.1 (by omega)).mono ?_
    rintro e w4 ⟨a2, m2, c2, x, rfl, -, ho, hd⟩
    have HD2 := Lib.hid (HD.out.trans hd)
    have H1 := Lib.hid (OwnNest.at (nest_drew HO.out hd hbl))
    have H2 := Lib.hid (OwnInts.at ho)
    have H3 : Hid (Below w.heap.size w w4) := Lib.hid (by rw [HhB.out]; exact HB1.out.trans (HD2.out.below hs1))
    clear ho hd HO HD HD2
    go_wp2
    go_ret2
    exact ⟨a, m, c, l, a2, m2, c2, x, rfl, Hl.out, H1.out, H2.out, H3.out⟩
theorem drawSummaryOf_c (v : Value) (cs : List Int) (w : World) (hv : BytesAt w v cs) (hin : ∀ x ∈ cs, 0 ≤ x ∧ x ≤ 255) (hl : cs.length ≤ 4096) : Calls Tryz.prog 5 #[v] w (DrawnAP w) := by
  have HQ := Lib.hid (l24Both_c v cs w hv hin hl)
  clear hv hin hl
  go_enter Tryz.func5, Tryz.ntmps5
  go_wp2_with fail
  refine HQ.out.mono ?_
  rintro e w1 ⟨a, m, c, l, a2, m2, c2, p, rfl, h1, h2, h3, h4⟩
  have H1 := Lib.hid h1
  have H2 := Lib.hid h2
  have H3 := Lib.hid h3
  have H4 := Lib.hid h4
  clear h1 h2 h3 h4
  go_wp2
  go_ret2
  exact ⟨a, m, c, l, a2, m2, c2, p, rfl, H1.out, H2.out, H3.out, H4.out⟩
end Go.Proofs.YtkggjejcajcppaaGreat
