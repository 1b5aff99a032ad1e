import Derived.Test.YtkggjejcajcppaaGreatMg25
import Derived.Test.YtkggjejcajcppaaGreatMg27
import Derived.Test.YtkggjejcajcppaaGreatMg14
/- Med: the median of the catches of a pattern, by both packages; the law FnExactMedianCatches. -/
namespace Go.Proofs.YtkggjejcajcppaaGreat
open Go.ChangeShapes Go.WideShapes Go.ChangeAt Go.RowKit

theorem insAll_len {α : Type} [Inhabited α] (lt : α → α → Bool) (l : List α) : (insAll lt l []).length = l.length := by
  have := (insAll_perm lt l []).length_eq; simpa using this
theorem ints_sorted {l l' : List Int} (hp : l'.Perm l) (ha : Asc Go.Sort.ltInt l') : l' = insAll Go.Sort.ltInt l [] := by
  refine asc_unique ha (insAll_asc Go.Sort.swo_ltInt l [] List.Pairwise.nil) (hp.trans (by have := (insAll_perm Go.Sort.ltInt l []).symm; simpa using this)) ?_
  intro a _ b _ h1 h2
  simp only [Go.Sort.ltInt, decide_eq_false_iff_not] at h1 h2
  omega
def medL (l : List Att) (p : List Int) : Int := if askCode l p = 0 then nth (insAll Go.Sort.ltInt (catL l (askL l p)) []) (((askL l p).length - 1) / 2) else 0
theorem askL_pos {l : List Att} {p : List Int} (h : askCode l p = 0) : 0 < (askL l p).length := by
  unfold askL; rw [if_pos h]
  unfold askCode at h
  split at h
  · split at h
    · exact absurd h (by decide)
    · rename_i h2; exact List.length_pos_iff.2 (by simpa using h2)
  · exact absurd h (by decide)

set_option maxHeartbeats 1000000 in
theorem sMedianCatches_c (v u : Value) (l : List Att) (p : List Int) (w : World) (hv : AttsAt w v l) (hu : IntsAt w u p) :
    Calls Tryz.prog 11 #[v, u] w (Gives (.tuple #[.int .i64 (medL l p), .int .i64 (askCode l p)]) w) := by
  have HV := Lib.hid hv
  have HQ := Lib.hid (l24Ask_c v u l p w hv hu)
  clear hv hu
  go_enter Tryz.func11, Tryz.ntmps11
  go_wp2_with fail
  refine HQ.out.mono ?_
  intro e w1 hp
  obtain ⟨a1, m, c1, rfl, ho, hb1⟩ := ask_gen hp
  clear hp HQ
  by_cases h0 : askCode l p = 0
  · have HK := Lib.hid (fun W h1 h2 => l24Catches_c v (.slice a1 m c1) l (askL l p) W h1 h2 (askL_len l p) (askL_nth l p))
    have HC0 := Lib.hid h0
    have HR : Hid (medL l p = nth (insAll Go.Sort.ltInt (catL l (askL l p)) []) (((askL l p).length - 1) / 2)) := Lib.hid (by unfold medL; rw [if_pos h0])
    have hpos := askL_pos h0
    have hlen := askL_len l p
    rw [h0]
    have HO := Lib.hid ho
    obtain ⟨ax, mx, cx, he, hm, hmc, hcm, hcc⟩ := ho
    cases he
    rw [← hm] at hpos hlen HR
    have Hm : Hid (m = (insAll Go.Sort.ltInt (catL l (askL l p)) []).length) := Lib.hid (by rw [insAll_len, catL_len]; exact hm)
    clear hm hcc h0 hmc hcm
    go_wp2_with fail
    refine (HK.out _ (HV.out.below hb1) HO.out).mono ?_
    rintro e w2 ⟨a2, m2, c2, rfl, ho2, hb2⟩
    clear HK HO
    obtain ⟨ax, mx, cx, he, hm2, hmc2, hcm2, hcc2⟩ := OwnInts.at ho2
    cases he
    obtain rfl : m2 = m := by rw [hm2, Hm.out]
    clear ho2 hm2
    generalize insAll Go.Sort.ltInt (catL l (askL l p)) [] = L at *
    have hml : m2 = L.length := Hm.out
    have hd1 : ((m2 : Int) - 1).tdiv 2 = (((m2 - 1) / 2 : Nat) : Int) := by rw [Int.tdiv_eq_ediv_of_nonneg (by omega)]; omega
    have hd2 : ((m2 : Int) - 1) / 2 = (((m2 - 1) / 2 : Nat) : Int) := by omega
    have hq2 : (m2 - 1) / 2 < m2 := by omega
    generalize hqq : (m2 - 1) / 2 = q at *
    have hwq : IntKind.i64.wrap (q : Int) = (q : Int) := IntWalk.i64_in _ (by omega)
    have hw1 : IntKind.i64.wrap ((m2 : Int) - 1) = (m2 : Int) - 1 := IntWalk.i64_in _ (by omega)
    clear hqq
    obtain ⟨b', o', rfl, hbs', d0⟩ := hcc2 q (by rw [← hml]; exact hq2)
    clear hml
    generalize nth L q = r at *
    have hb := bthen hb1 hb2
    go_wp2
    go_ret2
    exact Gives.ii HR.out HC0.out hb
  · have HA : Hid (medL l p = 0) := Lib.hid (by unfold medL; rw [if_neg h0])
    have hne : (askCode l p != 0) = true := by simpa using h0
    clear ho
    generalize askCode l p = code at *
    go_wp2
    go_ret2
    exact Gives.ii HA.out rfl hb1
set_option maxHeartbeats 1000000 in
theorem medLess : LessI 25 := by
  intro blk c B size W G hs hc i j hi hj
  have ci := hc i hi
  have cj := hc j hj
  clear hc
  go_enter Tryz.func25, Tryz.ntmps25
  go_wp2
  go_quiet (fail)
  go_wp2
  go_ret
  exact ⟨rfl, nq, rfl⟩
set_option maxHeartbeats 1000000 in
theorem iMedianCatches_c (v u : Value) (l : List Att) (p : List Int) (w : World) (hv : AttsAt w v l) (hu : IntsAt w u p) :
    Calls Tryz.prog 10 #[v, u] w (Gives (.tuple #[.int .i64 (medL l p), .int .i64 (askCode l p)]) w) := by
  have HQ := Lib.hid (catchesAt_c v u l p w hv hu)
  clear hv hu
  by_cases h0 : askCode l p = 0
  · have HC0 := Lib.hid h0
    have HR : Hid (medL l p = nth (insAll Go.Sort.ltInt (catL l (askL l p)) []) (((askL l p).length - 1) / 2)) := Lib.hid (by unfold medL; rw [if_pos h0])
    have hpos := askL_pos h0
    have hlen := askL_len l p
    rw [h0] at HQ
    go_enter Tryz.func10, Tryz.ntmps10
    go_wp2_with fail
    refine HQ.out.mono ?_
    rintro e w1 ⟨a1, m, c1, rfl, ho, hb1⟩
    have hm : m = (askL l p).length := by
      obtain ⟨_, _, e⟩ := slice_of_own ho
      injection e with _ e2; rw [e2, catL_len]
    rw [← hm] at hpos hlen HR
    have hB : BoxIs (w1.alloc (.cells #[.slice a1 m c1] 25)) w1.heap.size [.slice a1 m c1] := BoxIs.new w1 [.slice a1 m c1] 25
    have HS := Lib.hid (sortInts_c 25 (enters_of Tryz.func25 (by kernel_rfl) rfl) medLess a1 m c1 w1.heap.size w.heap.size _ _ (ho.alloc _) hB (fun x hx => by
      subst hx; have := (World.ownsRow.lt ho x.block rfl).2; omega) (by rw [catL_len, ← hm]; omega))
    clear HQ h0 hB hm ho
    go_wp2_with fail
    refine HS.out.mono ?_
    rintro e w2 ⟨rfl, l', p1, p2, o2, hB2, hb2⟩
    have hb : Below w.heap.size w w2 := (hb1.alloc hb1.size _).trans (hb2 _ (Nat.le_refl _) (by have := hb1.size; simp; omega))
    have hl' := ints_sorted p1 p2
    rw [← hl'] at HR
    obtain ⟨ax, mx, cx, he, hm2, hmc2, hcm2, hcc2⟩ := OwnInts.at o2
    cases he
    clear p1 p2 o2 hb2 hl' HS
    have hbx := hB2.2.1 0
    clear hB2
    have hml : m = l'.length := hm2
    have hd1 : ((m : Int) - 1).tdiv 2 = (((m - 1) / 2 : Nat) : Int) := by rw [Int.tdiv_eq_ediv_of_nonneg (by omega)]; omega
    have hd2 : ((m : Int) - 1) / 2 = (((m - 1) / 2 : Nat) : Int) := by omega
    have hq2 : (m - 1) / 2 < m := by omega
    generalize hqq : (m - 1) / 2 = q at *
    have hwq : IntKind.i64.wrap (q : Int) = (q : Int) := IntWalk.i64_in _ (by omega)
    have hw1 : IntKind.i64.wrap ((m : Int) - 1) = (m : Int) - 1 := IntWalk.i64_in _ (by omega)
    clear hqq
    obtain ⟨b', o', rfl, hbs', d0⟩ := hcc2 q (by rw [← hml]; exact hq2)
    clear hml hm2 hcc2
    generalize nth l' q = r at *
    go_wp2
    go_ret2
    exact Gives.ii HR.out HC0.out hb
  · have HA : Hid (medL l p = 0) := Lib.hid (by unfold medL; rw [if_neg h0])
    have hne : (askCode l p != 0) = true := by simpa using h0
    generalize askCode l p = code at *
    go_enter Tryz.func10, Tryz.ntmps10
    go_wp2_with fail
    refine HQ.out.mono ?_
    rintro e w1 ⟨a1, m, c1, rfl, ho, hb1⟩
    clear HQ ho
    have hb := hb1.alloc hb1.size (.cells #[.slice a1 m c1] 25)
    go_wp2
    go_ret2
    exact Gives.ii HA.out rfl hb
end Go.Proofs.YtkggjejcajcppaaGreat
