/- ItemAsk: PatternNamed and NameOf, by both packages. -/
import Derived.Test.YtonepofeckdipaaItemsFn
import Derived.Test.YtonepofeckdipaaItemsS
import Derived.Test.YtonepofeckdipaaItemsI
import Derived.Test.YtonepofeckdipaaGivesC
namespace Go.Proofs.Ytonepofeckdipaa
open Go.ChangeShapes Go.WideShapes Go.ChangeAt Go.RowKit

def patNamedL (l : List Item) (s : ByteArray) : List Int := if okItems l then (if findI (isNm s) l < 0 then [] else (nth l (findI (isNm s) l).toNat).pattern) else []
def patNamedCode (l : List Item) (s : ByteArray) : Int := if okItems l then (if findI (isNm s) l < 0 then 3 else 0) else 1
theorem patNamedL_len (l : List Item) (s : ByteArray) : (patNamedL l s).length ≤ 1099511627776 := by
  unfold patNamedL
  split
  · rename_i h
    split
    · simp
    · rcases findI_cases (isNm s) l with e | ⟨k, e, hk, -, -⟩
      · omega
      · rw [e, Int.toNat_natCast]
        have := (okPat_len (okItemAt_pat (okItems_at h hk))).2
        omega
  · simp
set_option maxHeartbeats 1000000 in
theorem sPatternNamed_c (v : Value) (l : List Item) (s : ByteArray) (w : World) (hv : ItemsAt w v l) : Calls Try.prog 17 #[v, .string s] w (GivesIntsC (patNamedL l s) (patNamedCode l s) w) := by
  have HV := Lib.hid hv
  have HQ := l22Ok_c v l w hv
  have HF := Lib.hid (fun W x => l22Find_c v l s W x)
  obtain ⟨a, n, cap, rfl, hn, hl, hm, hc⟩ := hv
  have Hc := Lib.hid hc; clear hc
  cases hE : okItems l
  · rw [hE] at HQ
    have HE := Lib.hid hE
    clear hE hn
    go_enter Try.func17, Try.ntmps17
    go_wp2_with fail
    refine HQ.mono ?_
    rintro e w1 ⟨rfl, hb1⟩
    clear HQ
    go_wp2
    go_ret2
    exact GivesIntsC.none (by unfold patNamedL; rw [HE.out]; rfl) (by unfold patNamedCode; rw [HE.out]; rfl) hb1
  · rw [hE] at HQ
    have HE := Lib.hid hE
    have Hn := Lib.hid hn
    clear hE hn
    rcases findI_cases (isNm s) l with hf | ⟨k, hf, hk, -, -⟩
    · have HG := Lib.hid hf
      rw [hf] at HF
      clear hf
      go_enter Try.func17, Try.ntmps17
      go_wp2_with fail
      refine HQ.mono ?_
      rintro e w1 ⟨rfl, hb1⟩
      clear HQ
      go_wp2_with fail
      refine (HF.out w1 (HV.out.below hb1)).mono ?_
      rintro e w2 ⟨rfl, hb2⟩
      go_wp2
      go_ret2
      exact GivesIntsC.none (by unfold patNamedL; rw [HE.out, HG.out]; rfl) (by unfold patNamedCode; rw [HE.out, HG.out]; rfl) (bthen hb1 hb2)
    · rw [hf] at HF
      have HR : Hid ((nth l k).pattern = patNamedL l s) := Lib.hid (by unfold patNamedL; rw [HE.out, if_pos rfl, hf, if_neg (by omega), Int.toNat_natCast])
      have HC : Hid (patNamedCode l s = 0) := Lib.hid (by unfold patNamedCode; rw [HE.out, if_pos rfl, hf, if_neg (by omega)])
      have hkn : k < n := by rw [Hn.out]; exact hk
      have hlen : (nth l k).pattern.length ≤ 1048576 := by have := (okPat_len (okItemAt_pat (okItems_at HE.out hk))).2; omega
      have Hk := Lib.hid hk
      clear hf hk
      go_enter Try.func17, Try.ntmps17
      go_wp2_with fail
      refine HQ.mono ?_
      rintro e w1 ⟨rfl, hb1⟩
      clear HQ
      go_wp2_with fail
      refine (HF.out w1 (HV.out.below hb1)).mono ?_
      rintro e w2 ⟨rfl, hb2⟩
      have hb := bthen hb1 hb2
      obtain ⟨b, o, pa, pn, pc, rfl, hbs, hsz, hp, c0, c1⟩ := item_cells (Hc.out.below hb) k Hk.out
      have HP := Lib.hid hp; clear hp
      go_wp2_with fail
      refine (l00Own_c _ _ _ HP.out hlen).mono ?_
      rintro e w3 ⟨a3, n3, c3, rfl, o3, hb3⟩
      have HO : Hid (OwnInts w3 w.heap.size (.slice a3 n3 c3) (patNamedL l s)) := Lib.hid (by rw [← HR.out]; exact own_mono o3 hb.size)
      clear o3
      go_wp2
      go_ret2
      exact GivesIntsC.mk HC.out HO.out (bthen hb hb3)
set_option maxHeartbeats 1000000 in
theorem iPatternNamed_c (v : Value) (l : List Item) (s : ByteArray) (w : World) (hv : ItemsAt w v l) : Calls Try.prog 18 #[v, .string s] w (GivesIntsC (patNamedL l s) (patNamedCode l s) w) := by
  have HV := Lib.hid hv
  have HQ := iValidItems_c v l w hv
  have HF := Lib.hid (fun W x => itemNamed_c v l s W x)
  obtain ⟨a, n, cap, rfl, hn, hl, hm, hc⟩ := hv
  have Hc := Lib.hid hc; clear hc
  cases hE : okItems l
  · rw [hE] at HQ
    have HE := Lib.hid hE
    clear hE hn
    go_enter Try.func18, Try.ntmps18
    go_wp2_with fail
    refine HQ.mono ?_
    rintro e w1 ⟨rfl, hb1⟩
    clear HQ
    go_wp2
    go_ret2
    exact GivesIntsC.none (by unfold patNamedL; rw [HE.out]; rfl) (by unfold patNamedCode; rw [HE.out]; rfl) hb1
  · rw [hE] at HQ
    have HE := Lib.hid hE
    have Hn := Lib.hid hn
    clear hE hn
    rcases findI_cases (isNm s) l with hf | ⟨k, hf, hk, -, -⟩
    · have HG := Lib.hid hf
      rw [hf] at HF
      clear hf
      go_enter Try.func18, Try.ntmps18
      go_wp2_with fail
      refine HQ.mono ?_
      rintro e w1 ⟨rfl, hb1⟩
      clear HQ
      go_wp2_with fail
      refine (HF.out w1 (HV.out.below hb1)).mono ?_
      rintro e w2 ⟨rfl, hb2⟩
      go_wp2
      go_ret2
      exact GivesIntsC.none (by unfold patNamedL; rw [HE.out, HG.out]; rfl) (by unfold patNamedCode; rw [HE.out, HG.out]; rfl) (bthen hb1 hb2)
    · rw [hf] at HF
      have HR : Hid ((nth l k).pattern = patNamedL l s) := Lib.hid (by unfold patNamedL; rw [HE.out, if_pos rfl, hf, if_neg (by omega), Int.toNat_natCast])
      have HC : Hid (patNamedCode l s = 0) := Lib.hid (by unfold patNamedCode; rw [HE.out, if_pos rfl, hf, if_neg (by omega)])
      have hkn : k < n := by rw [Hn.out]; exact hk
      have hlen : (nth l k).pattern.length ≤ 1048576 := by have := (okPat_len (okItemAt_pat (okItems_at HE.out hk))).2; omega
      have Hk := Lib.hid hk
      clear hf hk
      go_enter Try.func18, Try.ntmps18
      go_wp2_with fail
      refine HQ.mono ?_
      rintro e w1 ⟨rfl, hb1⟩
      clear HQ
      go_wp2_with fail
      refine (HF.out w1 (HV.out.below hb1)).mono ?_
      rintro e w2 ⟨rfl, hb2⟩
      have hb := bthen hb1 hb2
      obtain ⟨b, o, pa, pn, pc, rfl, hbs, hsz, hp, c0, c1⟩ := item_cells (Hc.out.below hb) k Hk.out
      have HP := Lib.hid hp; clear hp
      go_wp2_with fail
      refine (copyNumbers_c _ _ _ HP.out hlen).mono ?_
      rintro e w3 ⟨a3, n3, c3, rfl, o3, hb3⟩
      have HO : Hid (OwnInts w3 w.heap.size (.slice a3 n3 c3) (patNamedL l s)) := Lib.hid (by rw [← HR.out]; exact own_mono o3 hb.size)
      clear o3
      go_wp2
      go_ret2
      exact GivesIntsC.mk HC.out HO.out (bthen hb hb3)

def nameOfK (l : List Item) (p : List Int) : Int := findI (isPt (canL p)) l
def nameOfS (l : List Item) (p : List Int) : ByteArray := if okItems l && okPat p then (if nameOfK l p < 0 then ByteArray.empty else (nth l (nameOfK l p).toNat).name) else ByteArray.empty
def nameOfCode (l : List Item) (p : List Int) : Int := if okItems l && okPat p then (if nameOfK l p < 0 then 3 else 0) else 1
theorem Gives.si {a1 b1 : ByteArray} {a2 b2 : Int} {k2 : IntKind} {w w' : World} (h1 : a1 = b1) (h2 : a2 = b2) (hb : Below w.heap.size w w') : Gives (.tuple #[.string a1, .int k2 a2]) w (.returned (.tuple #[.string b1, .int k2 b2])) w' := ⟨by rw [h1, h2], hb⟩
set_option maxHeartbeats 2000000 in
theorem sNameOf_c (v u : Value) (l : List Item) (p : List Int) (w : World) (hv : ItemsAt w v l) (hu : IntsAt w u p) : Calls Try.prog 13 #[v, u] w (Gives (.tuple #[.string (nameOfS l p), .int .i64 (nameOfCode l p)]) w) := by
  have HV := Lib.hid hv
  have HU := Lib.hid hu
  have HQ := l22Ok_c v l w hv
  have HQ2 := Lib.hid (fun W x => l02Ok_c u p W x)
  have HF := Lib.hid (fun W z x y => l22Like_c v z l (canL p) W x y)
  obtain ⟨a, n, cap, rfl, hn, hl, hm, hc⟩ := hv
  have Hc := Lib.hid hc; clear hc
  obtain ⟨ua, un, uc, rfl, -⟩ := hu
  cases hE : okItems l
  · rw [hE] at HQ
    have HE := Lib.hid hE
    clear hE hn
    go_enter Try.func13, Try.ntmps13
    go_wp2_with fail
    refine HQ.mono ?_
    rintro e w1 ⟨rfl, hb1⟩
    clear HQ
    go_wp2
    go_ret2
    exact Gives.si (by unfold nameOfS; rw [HE.out]; rfl) (by unfold nameOfCode; rw [HE.out]; rfl) hb1
  · rw [hE] at HQ
    have HE := Lib.hid hE
    have Hn := Lib.hid hn
    clear hE hn
    cases hE2 : okPat p
    · rw [hE2] at HQ2
      have HE2 := Lib.hid hE2
      clear hE2
      go_enter Try.func13, Try.ntmps13
      go_wp2_with fail
      refine HQ.mono ?_
      rintro e w1 ⟨rfl, hb1⟩
      clear HQ
      go_wp2_with fail
      refine (HQ2.out w1 (HU.out.below hb1)).mono ?_
      rintro e w2 ⟨rfl, hb2⟩
      go_wp2
      go_ret2
      exact Gives.si (by unfold nameOfS; rw [HE.out, HE2.out]; rfl) (by unfold nameOfCode; rw [HE.out, HE2.out]; rfl) (bthen hb1 hb2)
    · rw [hE2] at HQ2
      have HE2 := Lib.hid hE2
      clear hE2
      rcases findI_cases (isPt (canL p)) l with hf | ⟨k, hf, hk, -, -⟩
      · have HG : Hid (nameOfK l p = -1) := Lib.hid hf
        rw [hf] at HF
        clear hf
        go_enter Try.func13, Try.ntmps13
        go_wp2_with fail
        refine HQ.mono ?_
        rintro e w1 ⟨rfl, hb1⟩
        clear HQ
        go_wp2_with fail
        refine (HQ2.out w1 (HU.out.below hb1)).mono ?_
        rintro e w2 ⟨rfl, hb2⟩
        have hb := bthen hb1 hb2
        go_wp2_with fail
        refine (canonicalPattern_c _ p w2 (HU.out.below hb) HE2.out).mono ?_
        rintro e w3 ⟨a3, n3, c3, rfl, o3, hb3⟩
        have hb' := bthen hb hb3
        have HC3 := Lib.hid (OwnInts.at o3); clear o3
        go_wp2_with fail
        refine (HF.out w3 _ (HV.out.below hb') HC3.out).mono ?_
        rintro e w4 ⟨rfl, hb4⟩
        go_wp2
        go_ret2
        exact Gives.si (by unfold nameOfS; rw [HE.out, HE2.out, HG.out]; rfl) (by unfold nameOfCode; rw [HE.out, HE2.out, HG.out]; rfl) (bthen hb' hb4)
      · have HG : Hid (nameOfK l p = (k : Int)) := Lib.hid hf
        rw [hf] at HF
        have hkn : k < n := by rw [Hn.out]; exact hk
        have Hk := Lib.hid hk
        clear hf hk
        go_enter Try.func13, Try.ntmps13
        go_wp2_with fail
        refine HQ.mono ?_
        rintro e w1 ⟨rfl, hb1⟩
        clear HQ
        go_wp2_with fail
        refine (HQ2.out w1 (HU.out.below hb1)).mono ?_
        rintro e w2 ⟨rfl, hb2⟩
        have hb := bthen hb1 hb2
        go_wp2_with fail
        refine (canonicalPattern_c _ p w2 (HU.out.below hb) HE2.out).mono ?_
        rintro e w3 ⟨a3, n3, c3, rfl, o3, hb3⟩
        have hb' := bthen hb hb3
        have HC3 := Lib.hid (OwnInts.at o3); clear o3
        go_wp2_with fail
        refine (HF.out w3 _ (HV.out.below hb') HC3.out).mono ?_
        rintro e w4 ⟨rfl, hb4⟩
        have hb5 := bthen hb' hb4
        obtain ⟨b, o, pa, pn, pc, rfl, hbs, hsz, hp, c0, c1⟩ := item_cells (Hc.out.below hb5) k Hk.out
        clear hp
        go_wp2
        go_ret2
        exact Gives.si (by unfold nameOfS; rw [HE.out, HE2.out, HG.out, Bool.and_self, if_pos rfl, if_neg (by omega), Int.toNat_natCast]) (by unfold nameOfCode; rw [HE.out, HE2.out, HG.out, Bool.and_self, if_pos rfl, if_neg (by omega)]) hb5
set_option maxHeartbeats 2000000 in
theorem iNameOf_c (v u : Value) (l : List Item) (p : List Int) (w : World) (hv : ItemsAt w v l) (hu : IntsAt w u p) : Calls Try.prog 15 #[v, u] w (Gives (.tuple #[.string (nameOfS l p), .int .i64 (nameOfCode l p)]) w) := by
  have HV := Lib.hid hv
  have HU := Lib.hid hu
  have HQ := iValidItems_c v l w hv
  have HQ2 := Lib.hid (fun W x => validPattern_c u p W x)
  have HF := Lib.hid (fun W z x y => itemWith_c v z l (canL p) W x y)
  obtain ⟨a, n, cap, rfl, hn, hl, hm, hc⟩ := hv
  have Hc := Lib.hid hc; clear hc
  obtain ⟨ua, un, uc, rfl, -⟩ := hu
  cases hE : okItems l
  · rw [hE] at HQ
    have HE := Lib.hid hE
    clear hE hn
    go_enter Try.func15, Try.ntmps15
    go_wp2_with fail
    refine HQ.mono ?_
    rintro e w1 ⟨rfl, hb1⟩
    clear HQ
    go_wp2
    go_ret2
    exact Gives.si (by unfold nameOfS; rw [HE.out]; rfl) (by unfold nameOfCode; rw [HE.out]; rfl) hb1
  · rw [hE] at HQ
    have HE := Lib.hid hE
    have Hn := Lib.hid hn
    clear hE hn
    cases hE2 : okPat p
    · rw [hE2] at HQ2
      have HE2 := Lib.hid hE2
      clear hE2
      go_enter Try.func15, Try.ntmps15
      go_wp2_with fail
      refine HQ.mono ?_
      rintro e w1 ⟨rfl, hb1⟩
      clear HQ
      go_wp2_with fail
      refine (HQ2.out w1 (HU.out.below hb1)).mono ?_
      rintro e w2 ⟨rfl, hb2⟩
      go_wp2
      go_ret2
      exact Gives.si (by unfold nameOfS; rw [HE.out, HE2.out]; rfl) (by unfold nameOfCode; rw [HE.out, HE2.out]; rfl) (bthen hb1 hb2)
    · rw [hE2] at HQ2
      have HE2 := Lib.hid hE2
      clear hE2
      rcases findI_cases (isPt (canL p)) l with hf | ⟨k, hf, hk, -, -⟩
      · have HG : Hid (nameOfK l p = -1) := Lib.hid hf
        rw [hf] at HF
        clear hf
        go_enter Try.func15, Try.ntmps15
        go_wp2_with fail
        refine HQ.mono ?_
        rintro e w1 ⟨rfl, hb1⟩
        clear HQ
        go_wp2_with fail
        refine (HQ2.out w1 (HU.out.below hb1)).mono ?_
        rintro e w2 ⟨rfl, hb2⟩
        have hb := bthen hb1 hb2
        go_wp2_with fail
        refine (canonical_c _ p w2 (HU.out.below hb) (okPat_len HE2.out).1 (okPat_len HE2.out).2).mono ?_
        rintro e w3 ⟨a3, n3, c3, rfl, o3, hb3⟩
        have hb' := bthen hb hb3
        have HC3 := Lib.hid (OwnInts.at o3); clear o3
        go_wp2_with fail
        refine (HF.out w3 _ (HV.out.below hb') HC3.out).mono ?_
        rintro e w4 ⟨rfl, hb4⟩
        go_wp2
        go_ret2
        exact Gives.si (by unfold nameOfS; rw [HE.out, HE2.out, HG.out]; rfl) (by unfold nameOfCode; rw [HE.out, HE2.out, HG.out]; rfl) (bthen hb' hb4)
      · have HG : Hid (nameOfK l p = (k : Int)) := Lib.hid hf
        rw [hf] at HF
        have hkn : k < n := by rw [Hn.out]; exact hk
        have Hk := Lib.hid hk
        clear hf hk
        go_enter Try.func15, Try.ntmps15
        go_wp2_with fail
        refine HQ.mono ?_
        rintro e w1 ⟨rfl, hb1⟩
        clear HQ
        go_wp2_with fail
        refine (HQ2.out w1 (HU.out.below hb1)).mono ?_
        rintro e w2 ⟨rfl, hb2⟩
        have hb := bthen hb1 hb2
        go_wp2_with fail
        refine (canonical_c _ p w2 (HU.out.below hb) (okPat_len HE2.out).1 (okPat_len HE2.out).2).mono ?_
        rintro e w3 ⟨a3, n3, c3, rfl, o3, hb3⟩
        have hb' := bthen hb hb3
        have HC3 := Lib.hid (OwnInts.at o3); clear o3
        go_wp2_with fail
        refine (HF.out w3 _ (HV.out.below hb') HC3.out).mono ?_
        rintro e w4 ⟨rfl, hb4⟩
        have hb5 := bthen hb' hb4
        obtain ⟨b, o, pa, pn, pc, rfl, hbs, hsz, hp, c0, c1⟩ := item_cells (Hc.out.below hb5) k Hk.out
        clear hp
        go_wp2
        go_ret2
        exact Gives.si (by unfold nameOfS; rw [HE.out, HE2.out, HG.out, Bool.and_self, if_pos rfl, if_neg (by omega), Int.toNat_natCast]) (by unfold nameOfCode; rw [HE.out, HE2.out, HG.out, Bool.and_self, if_pos rfl, if_neg (by omega)]) hb5
end Go.Proofs.Ytonepofeckdipaa
