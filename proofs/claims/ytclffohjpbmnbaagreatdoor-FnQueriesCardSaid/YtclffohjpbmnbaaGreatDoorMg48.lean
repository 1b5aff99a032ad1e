import Derived.Test.YtclffohjpbmnbaaGreatDoorMg37
import Derived.Test.YtclffohjpbmnbaaGreatDoorMg34
import Derived.Shelf.Strconv.Itoa4
import Derived.Ground.NamesProg
import Derived.Lib.LaidTab
/- Dec: decimal numerals written and read, by both packages. -/
namespace Go.Proofs.YtclffohjpbmnbaaGreatDoor
open Go.ChangeShapes Go.WideShapes Go.ChangeAt Go.RowKit Go.Shelf

def sd173_ren : Go.Shelf.Ren := ⟨fun | 173 => 120 | 246 => 150 | 283 => 174 | 284 => 175 | 285 => 176 | 286 => 177 | 129 => 163 | 317 => 185 | 318 => 186 | 319 => 187 | 320 => 188 | 337 => 191 | 338 => 192 | n => n, fun | 2 => 2 | 3 => 3 | 9 => 9 | 4 => 4 | 171 => 162 | 0 => 0 | 53 => 114 | 37 => 22 | 5 => 5 | 173 => 164 | 212 => 174 | 51 => 151 | 20 => 20 | 213 => 175 | 46 => 140 | 232 => 180 | 233 => 181 | n => n, fun | 17 => 0 | 18 => 1 | 19 => 2 | n => n⟩
theorem sd173 : Go.Proofs.LaysM.n173 Tryz.prog sd173_ren := {
  mixed := by kernel_rfl
  f129 := Tryz.func163.trans (congrArg some (by kernel_rfl))
  f173 := Tryz.func120.trans (congrArg some (by kernel_rfl))
  f246 := Tryz.func150.trans (congrArg some (by kernel_rfl))
  f283 := Tryz.func174.trans (congrArg some (by kernel_rfl))
  f284 := Tryz.func175.trans (congrArg some (by kernel_rfl))
  f285 := Tryz.func176.trans (congrArg some (by kernel_rfl))
  f286 := Tryz.func177.trans (congrArg some (by kernel_rfl))
  f317 := Tryz.func185.trans (congrArg some (by kernel_rfl))
  f318 := Tryz.func186.trans (congrArg some (by kernel_rfl))
  f319 := Tryz.func187.trans (congrArg some (by kernel_rfl))
  f320 := Tryz.func188.trans (congrArg some (by kernel_rfl))
  f337 := Tryz.func191.trans (congrArg some (by kernel_rfl))
  f338 := Tryz.func192.trans (congrArg some (by kernel_rfl))
  t0 := Tryz.underlying0
  a0 := Tryz.isAgg0
  z0 := Tryz.sizeOf0
  v0 := Tryz.zeroValue0
  t2 := Tryz.underlying2
  a2 := Tryz.isAgg2
  z2 := Tryz.sizeOf2
  v2 := Tryz.zeroValue2
  t3 := Tryz.underlying3
  a3 := Tryz.isAgg3
  z3 := Tryz.sizeOf3
  v3 := Tryz.zeroValue3
  t4 := Tryz.underlying4
  a4 := Tryz.isAgg4
  z4 := Tryz.sizeOf4
  v4 := Tryz.zeroValue4
  t5 := Tryz.underlying5
  a5 := Tryz.isAgg5
  z5 := Tryz.sizeOf5
  v5 := Tryz.zeroValue5
  t9 := Tryz.underlying9
  a9 := Tryz.isAgg9
  z9 := Tryz.sizeOf9
  v9 := Tryz.zeroValue9
  t20 := Tryz.underlying20
  a20 := Tryz.isAgg20
  z20 := Tryz.sizeOf20
  v20 := Tryz.zeroValue20
  t37 := Tryz.underlying22
  a37 := Tryz.isAgg22
  z37 := Tryz.sizeOf22
  v37 := Tryz.zeroValue22
  t46 := Tryz.underlying140
  a46 := Tryz.isAgg140
  z46 := Tryz.sizeOf140
  v46 := Tryz.zeroValue140
  t51 := Tryz.underlying151
  a51 := Tryz.isAgg151
  z51 := Tryz.sizeOf151
  v51 := Tryz.zeroValue151
  t53 := Tryz.underlying114
  a53 := Tryz.isAgg114
  z53 := Tryz.sizeOf114
  v53 := Tryz.zeroValue114
  t171 := Tryz.underlying162
  a171 := Tryz.isAgg162
  z171 := Tryz.sizeOf162
  v171 := Tryz.zeroValue162
  t173 := Tryz.underlying164
  a173 := Tryz.isAgg164
  z173 := Tryz.sizeOf164
  v173 := Tryz.zeroValue164
  t212 := Tryz.underlying174
  a212 := Tryz.isAgg174
  z212 := Tryz.sizeOf174
  v212 := Tryz.zeroValue174
  t213 := Tryz.underlying175
  a213 := Tryz.isAgg175
  z213 := Tryz.sizeOf175
  t232 := Tryz.underlying180
  a232 := Tryz.isAgg180
  z232 := Tryz.sizeOf180
  v232 := Tryz.zeroValue180
  t233 := Tryz.underlying181
  a233 := Tryz.isAgg181
  z233 := Tryz.sizeOf181
  v233 := Tryz.zeroValue181
  g17 := by kernel_rfl
  g18 := by kernel_rfl
  g19 := by kernel_rfl
  i0 := by kernel_rfl
  i2 := by kernel_rfl
  i3 := by kernel_rfl
  i4 := by kernel_rfl
  i5 := by kernel_rfl
  i9 := by kernel_rfl
  i20 := by kernel_rfl
  i37 := by kernel_rfl
  i46 := by kernel_rfl
  i51 := by kernel_rfl
  i53 := by kernel_rfl
  i171 := by kernel_rfl
  i173 := by kernel_rfl
  i212 := by kernel_rfl
  i232 := by kernel_rfl
  i233 := by kernel_rfl
  m17 := by kernel_rfl
  m18 := by kernel_rfl
  m19 := by kernel_rfl }

/-- The library's table of powers of ten stands in memory. -/
def TabW (w : World) : Prop := Lib.TabIs Tryz.prog w "internal/strconv.uint64pow10" .u64 Lib.pow10Tab
theorem dcell_lt {w : World} {a : Addr} {v : Value} (h : w.cell? a = some v) : a.block < w.heap.size := by
  rcases Nat.lt_or_ge a.block w.heap.size with h' | h'
  · exact h'
  · simp [World.cell?, Array.getElem?_eq_none h'] at h
theorem TabW.below {w w' : World} (h : TabW w) (hb : Below w.heap.size w w') : TabW w' := by
  unfold TabW Lib.TabIs at *
  obtain ⟨g, hg⟩ := Option.isSome_iff_exists.1 (show (Tryz.prog.globalNamed "internal/strconv.uint64pow10").isSome = true by kernel_rfl)
  have hc := Lib.TabIs.cell (P := Tryz.prog) (W := w) (zs := Lib.pow10Tab) h hg 0 (by decide)
  have hlt := dcell_lt hc
  rw [← h]
  unfold World.var?
  rw [hg]
  simp only [Option.bind_some]
  rw [hb.block g hlt]
theorem decimal_c (n : Int) (h0 : -9223372036854775808 ≤ n) (h1 : n ≤ 9223372036854775807) (w : World) (ht : TabW w) : Calls Tryz.prog 59 #[.int .i64 n] w (Gives (.string (decB n)) w) := by
  have HQ := Lib.hid (Any.strconv_FormatInt_10 sd173 n h0 h1 w ht)
  change Hid (Calls Tryz.prog 120 _ _ _) at HQ
  go_enter Tryz.func59, Tryz.ntmps59
  go_wp2_with fail
  refine HQ.out.mono ?_
  rintro e w1 ⟨rfl, k, os, rfl⟩
  go_wp2
  go_ret
  exact ⟨rfl, by
    have hb := below_drewN (Below.refl w.heap.size w) k
    refine ⟨hb.os, hb.tape, hb.output, ?_, fun j hj => ?_⟩
    · show _ ≤ ((w.drewN k).heap ++ os).size
      rw [Array.size_append]; exact Nat.le_add_right_of_le hb.size
    · show ((w.drewN k).heap ++ os)[j]? = _
      rw [Array.getElem?_append_left (Nat.lt_of_lt_of_le hj hb.size)]; exact hb.block j hj⟩
theorem own_bytes_c {w : World} {base : Nat} {a : Option Addr} {n c : Nat} {l : List Int} (ho : OwnBytes w base (.slice a n c) l) : n = l.length ∧ BytesC w a l := by
  have hlt := World.ownsRow.lt ho
  rcases ho.2 with ⟨h, h0⟩ | ⟨g, cap, cur, h, hb, hg, hnc, hcm, hcs, htake⟩
  · cases h; exact ⟨h0.symm, fun i hi => by omega⟩
  · injection h with h1 h2 h3
    subst h1
    refine ⟨h2, fun i hi => ⟨g, 0, rfl, (hlt g rfl).2, ?_⟩⟩
    subst h2
    have := World.ownsRow.cellAt (n := l.length) (size := 1) (by exact ho) i (by omega)
    rw [Nat.zero_add, this, List.getElem?_map, nth_get? l i hi]; rfl
theorem BytesC.grown1 {w : World} {a : Option Addr} {l : List Int} (h : BytesC w a l) (o : Obj) : BytesC (w.alloc o) a l := by
  intro i hi
  obtain ⟨b, o', ha, hs, c0⟩ := h i hi
  exact ⟨b, o', ha, by simp; omega, by rw [World.cell?_alloc_lt _ _ _ (by exact hs)]; exact c0⟩
theorem dstr {r b : ByteArray} {w w' : World} (h : r = b) (hb : Below w.heap.size w w') : Gives (.string r) w (.returned (.string b)) w' := ⟨by rw [h], hb⟩
set_option maxHeartbeats 2000000 in
theorem l01Dec_pos (U : Nat) (hU0 : 0 < U) (hU : U ≤ 9223372036854775808) (hU2 : U ≤ 9223372036854775807) (w : World) : Calls Tryz.prog 124 #[.int .i64 (U : Int)] w (Gives (.string (decB (U : Int))) w) := by
  have HR := Lib.hid (decB_pos hU0)
  go_enter Tryz.func124, Tryz.ntmps124
  go_wp2
  go_loopw [3, 4] (fun s i wr => ∃ (u : Nat) (a' : Option Addr) (n' c' : Nat) (acc : List Int), i = .int .i64 ((u : Int)) ∧ u ≤ 9223372036854775808 ∧ s = .slice a' n' c' ∧ Hid (OwnBytes wr w.heap.size (.slice a' n' c') acc) ∧ Hid (dig0 U = dig0 u ++ acc) ∧ Below w.heap.size w wr) (fun _ i _ => (intOf i).natAbs)
  case atStart => exact ⟨U, _, _, _, [], rfl, hU, rfl, Lib.hid (own_bytes_empty w), Lib.hid (by simp), by go_grown⟩
  case round =>
    obtain ⟨u, a', n', c', acc, rfl, hu, rfl, HO, HD, hb⟩ := hrel
    have hacc : acc.length ≤ 19 := by
      have := congrArg List.length HD.out
      rw [List.length_append] at this
      have := dig0_len 19 U (by omega)
      omega
    obtain ⟨rfl, HB⟩ := own_bytes_c HO.out
    have HBc := Lib.hid HB
    clear HB
    by_cases hz : u = 0
    · subst hz
      have HA : Hid (acc = dig0 U) := Lib.hid (by rw [HD.out, dig0_zero]; rfl)
      have hcv := own_bytes_text HO.out
      have hcv2 := hcv 9 Tryz.underlying9
      have hal : ((acc.length : Int) == 0) = false := beq_eq_false_iff_ne.2 (by
        have : 0 < acc.length := by rw [HA.out, dig0_pos hU0, List.length_append]; simp
        omega)
      have hneg : ¬ ((U : Int) < 0) := by omega
      go_wp2
      go_ret
      exact dstr (by rw [HR.out, HA.out]) hb
    · have HD2 : Hid (dig0 U = dig0 (u / 10) ++ ((48 + ((u % 10 : Nat) : Int)) :: acc)) := Lib.hid (by rw [HD.out, dig0_pos (by omega)]; simp)
      obtain ⟨d, hd⟩ : ∃ d : Nat, u % 10 = d := ⟨_, rfl⟩
      obtain ⟨v, hv⟩ : ∃ v : Nat, u / 10 = v := ⟨_, rfl⟩
      have hd9 : d ≤ 9 := by omega
      have hvu : v < u := by omega
      have ht1 : (u : Int).tmod 10 = (d : Int) := by rw [Int.tmod_eq_emod_of_nonneg (by omega)]; omega
      have ht2 : (u : Int).tdiv 10 = (v : Int) := by rw [Int.tdiv_eq_ediv_of_nonneg (by omega)]; omega
      have ht3 : (u : Int) % 10 = (d : Int) := by omega
      have ht4 : (u : Int) / 10 = (v : Int) := by omega
      have ht5 : (-(u : Int)).tmod 10 = -(d : Int) := by rw [Int.neg_tmod, ht1]
      have ht6 : (-(u : Int)).tdiv 10 = -(v : Int) := by rw [Int.neg_tdiv, ht2]
      have hwu : IntKind.u8.wrap (48 + (d : Int)) = 48 + (d : Int) := IntWalk.u8_in _ (by omega)
      have hwi : IntKind.i64.wrap (48 + (d : Int)) = 48 + (d : Int) := IntWalk.i64_in _ (by omega)
      have hwd : IntKind.i64.wrap (d : Int) = (d : Int) := IntWalk.i64_in _ (by omega)
      have hwd2 : IntKind.i64.wrap (-(d : Int)) = -(d : Int) := IntWalk.i64_in _ (by omega)
      have hwv : IntKind.i64.wrap (v : Int) = (v : Int) := IntWalk.i64_in _ (by omega)
      have hwv2 : IntKind.i64.wrap (-(v : Int)) = -(v : Int) := IntWalk.i64_in _ (by omega)
      have hne : ((u : Int) != 0) = true := by simpa using (show ¬ (u : Int) = 0 by omega)
      have hne2 : (-(u : Int) != 0) = true := by simpa using (show ¬ (u : Int) = 0 by omega)
      rw [hd, hv] at HD2
      clear hd hv
      have HL : Hid (OwnBytes (wr.alloc (.cells #[.int .u8 (48 + (d : Int))] 5)) wr.heap.size (.slice (some ⟨wr.heap.size, 0, none⟩) 1 1) [48 + (d : Int)]) := Lib.hid (World.ownsRow_lit wr #[.int .u8 (48 + (d : Int))] 1 (Nat.le_refl _) (by decide) rfl)
      have hneg : ¬ ((d : Int) < 0) := by omega
      go_wp2_with (at_builtin; refine wpList_app_bytes rfl _ _ rfl wr.heap.size _ _ rfl HL.out _ _ _ acc rfl rfl (HBc.out.grown1 _) (by simp; omega) (by simp) ?_)
      intro a6 n6 c6 w6 ho6 hg6 _ _
      have hb6 : Below w.heap.size w w6 := (hb.alloc hb.size _).grown hg6 (by have := hb.size; simp; omega) (fun g hg => by have := hb.size; have := (World.ownsRow.lt HL.out g hg).1; omega)
      have HO6 : Hid (OwnBytes w6 w.heap.size (.slice a6 n6 c6) ((48 + (d : Int)) :: acc)) := Lib.hid (cmono ho6 hb.size)
      clear ho6 hg6 HL HO HD
      go_wp2
      exact ⟨⟨v, a6, n6, c6, _, rfl, by omega, rfl, HO6, HD2, hb6⟩, by simp [intOf]; omega⟩
set_option maxHeartbeats 2000000 in
theorem l01Dec_neg (U : Nat) (hU0 : 0 < U) (hU : U ≤ 9223372036854775808) (w : World) : Calls Tryz.prog 124 #[.int .i64 (-(U : Int))] w (Gives (.string (decB (-(U : Int)))) w) := by
  have HR := Lib.hid (decB_neg hU0)
  go_enter Tryz.func124, Tryz.ntmps124
  go_wp2
  go_loopw [3, 4] (fun s i wr => ∃ (u : Nat) (a' : Option Addr) (n' c' : Nat) (acc : List Int), i = .int .i64 ((-(u : Int))) ∧ u ≤ 9223372036854775808 ∧ s = .slice a' n' c' ∧ Hid (OwnBytes wr w.heap.size (.slice a' n' c') acc) ∧ Hid (dig0 U = dig0 u ++ acc) ∧ Below w.heap.size w wr) (fun _ i _ => (intOf i).natAbs)
  case atStart => exact ⟨U, _, _, _, [], rfl, hU, rfl, Lib.hid (own_bytes_empty w), Lib.hid (by simp), by go_grown⟩
  case round =>
    obtain ⟨u, a', n', c', acc, rfl, hu, rfl, HO, HD, hb⟩ := hrel
    have hacc : acc.length ≤ 19 := by
      have := congrArg List.length HD.out
      rw [List.length_append] at this
      have := dig0_len 19 U (by omega)
      omega
    obtain ⟨rfl, HB⟩ := own_bytes_c HO.out
    have HBc := Lib.hid HB
    clear HB
    by_cases hz : u = 0
    · subst hz
      have HA : Hid (acc = dig0 U) := Lib.hid (by rw [HD.out, dig0_zero]; rfl)
      have hcv := own_bytes_text HO.out
      have hcv2 := hcv 9 Tryz.underlying9
      have hal : ((acc.length : Int) == 0) = false := beq_eq_false_iff_ne.2 (by
        have : 0 < acc.length := by rw [HA.out, dig0_pos hU0, List.length_append]; simp
        omega)
      have hneg : -(U : Int) < 0 := by omega
      have hsz : (strOfNums acc).size ≤ 19 := by rw [strOfNums_size]; exact hacc
      go_wp2
      go_ret
      exact dstr (by rw [HR.out, HA.out]) hb
    · have HD2 : Hid (dig0 U = dig0 (u / 10) ++ ((48 + ((u % 10 : Nat) : Int)) :: acc)) := Lib.hid (by rw [HD.out, dig0_pos (by omega)]; simp)
      obtain ⟨d, hd⟩ : ∃ d : Nat, u % 10 = d := ⟨_, rfl⟩
      obtain ⟨v, hv⟩ : ∃ v : Nat, u / 10 = v := ⟨_, rfl⟩
      have hd9 : d ≤ 9 := by omega
      have hvu : v < u := by omega
      have ht1 : (u : Int).tmod 10 = (d : Int) := by rw [Int.tmod_eq_emod_of_nonneg (by omega)]; omega
      have ht2 : (u : Int).tdiv 10 = (v : Int) := by rw [Int.tdiv_eq_ediv_of_nonneg (by omega)]; omega
      have ht3 : (u : Int) % 10 = (d : Int) := by omega
      have ht4 : (u : Int) / 10 = (v : Int) := by omega
      have ht5 : (-(u : Int)).tmod 10 = -(d : Int) := by rw [Int.neg_tmod, ht1]
      have ht6 : (-(u : Int)).tdiv 10 = -(v : Int) := by rw [Int.neg_tdiv, ht2]
      have hwu : IntKind.u8.wrap (48 + (d : Int)) = 48 + (d : Int) := IntWalk.u8_in _ (by omega)
      have hwi : IntKind.i64.wrap (48 + (d : Int)) = 48 + (d : Int) := IntWalk.i64_in _ (by omega)
      have hwd : IntKind.i64.wrap (d : Int) = (d : Int) := IntWalk.i64_in _ (by omega)
      have hwd2 : IntKind.i64.wrap (-(d : Int)) = -(d : Int) := IntWalk.i64_in _ (by omega)
      have hwv : IntKind.i64.wrap (v : Int) = (v : Int) := IntWalk.i64_in _ (by omega)
      have hwv2 : IntKind.i64.wrap (-(v : Int)) = -(v : Int) := IntWalk.i64_in _ (by omega)
      have hne : ((u : Int) != 0) = true := by simpa using (show ¬ (u : Int) = 0 by omega)
      have hne2 : (-(u : Int) != 0) = true := by simpa using (show ¬ (u : Int) = 0 by omega)
      rw [hd, hv] at HD2
      clear hd hv
      have HL : Hid (OwnBytes (wr.alloc (.cells #[.int .u8 (48 + (d : Int))] 5)) wr.heap.size (.slice (some ⟨wr.heap.size, 0, none⟩) 1 1) [48 + (d : Int)]) := Lib.hid (World.ownsRow_lit wr #[.int .u8 (48 + (d : Int))] 1 (Nat.le_refl _) (by decide) rfl)
      by_cases hd0 : d = 0
      · subst hd0
        have HL3 : Hid (OwnBytes (wr.alloc (.cells #[.int .u8 48] 5)) wr.heap.size (.slice (some ⟨wr.heap.size, 0, none⟩) 1 1) [48]) := Lib.hid (World.ownsRow_lit wr #[.int .u8 48] 1 (Nat.le_refl _) (by decide) rfl)
        have HD3 : Hid (dig0 U = dig0 v ++ (48 :: acc)) := Lib.hid (by simpa using HD2.out)
        clear HD2 hd9 ht1 ht3 hwu hwi hwd hwd2 HL
        have HL := HL3
        have ht5' : (-(u : Int)).tmod 10 = 0 := by simpa using ht5
        clear ht5
        go_wp2_with (at_builtin; refine wpList_app_bytes rfl _ _ rfl wr.heap.size _ _ rfl HL3.out _ _ _ acc rfl rfl (HBc.out.grown1 _) (by simp; omega) (by simp) ?_)
        intro a6 n6 c6 w6 ho6 hg6 _ _
        have hb6 : Below w.heap.size w w6 := (hb.alloc hb.size _).grown hg6 (by have := hb.size; simp; omega) (fun g hg => by have := hb.size; have := (World.ownsRow.lt HL3.out g hg).1; omega)
        have HO6 : Hid (OwnBytes w6 w.heap.size (.slice a6 n6 c6) ((48) :: acc)) := Lib.hid (cmono ho6 hb.size)
        clear ho6 hg6 HL HO HD
        go_wp2
        exact ⟨⟨v, a6, n6, c6, _, rfl, by omega, rfl, HO6, HD3, hb6⟩, by simp [intOf]; omega⟩
      · have hneg : -(d : Int) < 0 := by omega
        go_wp2_with (at_builtin; refine wpList_app_bytes rfl _ _ rfl wr.heap.size _ _ rfl HL.out _ _ _ acc rfl rfl (HBc.out.grown1 _) (by simp; omega) (by simp) ?_)
        intro a6 n6 c6 w6 ho6 hg6 _ _
        have hb6 : Below w.heap.size w w6 := (hb.alloc hb.size _).grown hg6 (by have := hb.size; simp; omega) (fun g hg => by have := hb.size; have := (World.ownsRow.lt HL.out g hg).1; omega)
        have HO6 : Hid (OwnBytes w6 w.heap.size (.slice a6 n6 c6) ((48 + (d : Int)) :: acc)) := Lib.hid (cmono ho6 hb.size)
        clear ho6 hg6 HL HO HD
        go_wp2
        exact ⟨⟨v, a6, n6, c6, _, rfl, by omega, rfl, HO6, HD2, hb6⟩, by simp [intOf]; omega⟩
set_option maxHeartbeats 2000000 in
theorem l01Dec_c (n : Int) (h0 : -9223372036854775808 ≤ n) (h1 : n ≤ 9223372036854775807) (w : World) : Calls Tryz.prog 124 #[.int .i64 n] w (Gives (.string (decB n)) w) := by
  rcases Int.lt_trichotomy n 0 with h | h | h
  · obtain ⟨u, rfl⟩ : ∃ u : Nat, n = -(u : Int) := ⟨n.natAbs, by omega⟩
    exact l01Dec_neg u (by omega) (by omega) w
  · subst h
    have HR := Lib.hid decB_zero
    have HO := Lib.hid (own_bytes_empty w)
    go_enter Tryz.func124, Tryz.ntmps124
    go_wp2
    go_loopw [3, 4] (fun s i wr => i = .int .i64 0 ∧ s = .slice (some ⟨w.heap.size, 0, none⟩) 0 0 ∧ Below w.heap.size w wr) (fun _ i _ => (intOf i).natAbs)
    case atStart => exact ⟨rfl, rfl, by go_grown⟩
    case round =>
      obtain ⟨rfl, rfl, hb⟩ := hrel
      go_wp2
      go_ret
      exact dstr HR.out hb
  · obtain ⟨u, rfl⟩ : ∃ u : Nat, n = (u : Int) := ⟨n.natAbs, by omega⟩
    exact l01Dec_pos u (by omega) (by omega) (by omega) w
theorem tN_len (cs : List Int) : (tN cs).length ≤ cs.length := by unfold tN; split <;> simp
def GivesNB (v : Int) (b : Bool) (w : World) (e : Ending) (w' : World) : Prop := e = .returned (.tuple #[.int .i64 v, .bool b]) ∧ Below w.heap.size w w'
theorem GivesNB.mk {v v2 : Int} {b b2 : Bool} {w w' : World} (h1 : v = v2) (h2 : b = b2) (hb : Below w.heap.size w w') : GivesNB v b w (.returned (.tuple #[.int .i64 v2, .bool b2])) w' := ⟨by rw [h1, h2], hb⟩
set_option maxHeartbeats 4000000 in
theorem l01Number_c (s : ByteArray) (w : World) (hs : s.size ≤ 1048576)  : Calls Tryz.prog 69 #[.string s] w (GivesNB (numN (chars s)) (numOk (chars s)) w) := by
  have HCs : Hid (strOfNums (chars s) = s) := Lib.hid (strOf_chars s)
  have hcl := chars_len s
  have hce : s.extract 1 s.size = strOfNums ((chars s).drop 1) := by
    rw [extract_str, List.take_of_length_le (by rw [chars_len]; exact Nat.le_refl _)]
  have Hin := Lib.hid (chars_in s)
  by_cases h0 : s.size = 0
  · have he : s.toList.isEmpty = true := by rw [isEmpty_size]; exact decide_eq_true h0
    have hp0 : decide (0 < s.size) = false := decide_eq_false (by omega)
    have hd1 : (s.size : Int) < 1 := by omega
    have hd3 : ((s.size : Int) == 0) = true := by rw [h0]; rfl
    have HX : Hid (numOk (chars s) = false) := Lib.hid (numOk_len (cs := chars s) (fun h => by have := tN_len (chars s); have := h.1; omega))
    clear h0
    go_enter Tryz.func69, Tryz.ntmps69
    go_wp2
    go_ret2
    exact GivesNB.mk (numN_no HX.out) HX.out (Below.refl _ _)
  · have he : s.toList.isEmpty = false := by rw [isEmpty_size]; exact decide_eq_false h0
    have hp0 : decide (0 < s.size) = true := decide_eq_true (by omega)
    have hpos : 0 < s.size := by omega
    have hc0 := (chars_nth s 0 hpos).symm
    generalize hcs : chars s = cs at *
    clear h0
    by_cases h45 : nth cs 0 = 45
    · have he45 : (nth cs 0 == 45) = true := by rw [h45]; rfl
      have hsz : (strOfNums (cs.drop 1)).size = s.size - 1 := by rw [strOfNums_size, List.length_drop]; omega
      have Ht : Hid (chars (strOfNums (cs.drop 1)) = tN cs) := Lib.hid (by unfold tN; rw [if_pos h45, chars_strOf (fun x hx => Hin.out x (List.mem_of_mem_drop hx))])
      have HSg : Hid (numV cs = - valF (chars (strOfNums (cs.drop 1))) 0) := Lib.hid (by rw [Ht.out]; unfold numV; rw [if_pos h45])
      rw [← hce] at Ht HSg hsz
      clear hce h45 hcs
      have hle1 : 1 ≤ s.size := hpos
      by_cases hL : 1 ≤ s.size - 1 ∧ s.size - 1 ≤ 18
      · obtain ⟨hL1, hL2⟩ := hL
        have hd1 : ¬ (((s.size - 1 : Nat) : Int) < 1) := by omega
        have hd2 : decide ((18 : Int) < ((s.size - 1 : Nat) : Int)) = false := decide_eq_false (by omega)
        have hd3 : (((s.size - 1 : Nat) : Int) == 0) = false := beq_eq_false_iff_ne.2 (by omega)
        go_enter Tryz.func69, Tryz.ntmps69
        go_wp2
        generalize s.extract 1 s.size = t at *
        go_loopw [5, 6] (fun x i wr => ∃ (k : Nat) (v : Int), i = .int .i64 k ∧ x = .int .i64 v ∧ k ≤ (t).size ∧ 0 ≤ v ∧ v < ((10 ^ k : Nat) : Int) ∧ Hid (valF (chars (t)) 0 = valF ((chars (t)).drop k) v) ∧ Hid (∀ j, j < k → digitB (nth (chars (t)) j) = true) ∧ Below w.heap.size w wr) (fun _ i _ => (t).size - (intOf i).toNat)
        case atStart => exact ⟨0, 0, rfl, rfl, Nat.zero_le _, Int.le_refl _, by decide, Lib.hid rfl, Lib.hid (fun j h => absurd h (Nat.not_lt_zero _)), Below.refl _ _⟩
        case round =>
          obtain ⟨k, v, rfl, rfl, hk, hv0, hv1, HV, HG, hb⟩ := hrel
          have hp18 : 10 ^ k ≤ 10 ^ 18 := Nat.pow_le_pow_right (by decide) (by omega)
          have h18 : (10 : Nat) ^ 18 = 1000000000000000000 := by decide
          by_cases hlt : k < (t).size
          · have hcn := (chars_nth (t) k hlt).symm
            have hkl : k < (chars (t)).length := by rw [chars_len]; exact hlt
            have HT := Lib.hid (HV.out.trans (valF_step (chars (t)) v k hkl))
            have hp17 : 10 ^ (k + 1) ≤ 10 ^ 18 := Nat.pow_le_pow_right (by decide) (by omega)
            have hps : 10 ^ (k + 1) = 10 ^ k * 10 := Nat.pow_succ ..
            have HBad := Lib.hid (fun h => numOk_bad (cs := cs) (k := k) (by rw [← Ht.out]; exact hkl) (by rw [← Ht.out]; exact h))
            have HG2 : Hid (digitB (nth (chars (t)) k) = true → ∀ j, j < k + 1 → digitB (nth (chars (t)) j) = true) := Lib.hid (fun h j hj => by
              rcases Nat.lt_succ_iff_lt_or_eq.1 hj with h1 | rfl
              · exact HG.out j h1
              · exact h)
            have HQ := Lib.hid (fun W => l01Digit_c (nth (chars (t)) k) W)
            clear HV HG hkl
            generalize nth (chars (t)) k = c at *
            cases hD : digitB c
            · rw [hD] at HQ
              have HX := Lib.hid (HBad.out hD)
              clear HBad HG2 hD HT
              go_wp2_with fail
              refine (HQ.out _).mono ?_
              rintro e w1 ⟨rfl, hb1⟩
              go_wp2
              go_ret2
              exact GivesNB.mk (numN_no HX.out) HX.out (bthen hb hb1)
            · rw [hD] at HQ
              have HG3 := Lib.hid (HG2.out hD)
              have hcd : 48 ≤ c ∧ c ≤ 57 := by unfold digitB at hD; simpa using hD
              clear HBad HG2 hD
              have hw1 : IntKind.i64.wrap (10 * v) = 10 * v := IntWalk.i64_in _ (by omega)
              have hw2 : IntKind.u8.wrap (c - 48) = c - 48 := IntWalk.u8_in _ (by omega)
              have hw3 : IntKind.i64.wrap (c - 48) = c - 48 := IntWalk.i64_in _ (by omega)
              have hw4 : IntKind.i64.wrap (10 * v + (c - 48)) = 10 * v + (c - 48) := IntWalk.i64_in _ (by omega)
              have hv2 : 10 * v + (c - 48) < ((10 ^ (k + 1) : Nat) : Int) := by omega
              have hv3 : 0 ≤ 10 * v + (c - 48) := by omega
              clear hp17 hps hp18 h18 hv1
              go_wp2_with fail
              refine (HQ.out _).mono ?_
              rintro e w1 ⟨rfl, hb1⟩
              go_wp2
              exact ⟨⟨k + 1, _, by go_num, rfl, hlt, hv3, hv2, HT, HG3, bthen hb hb1⟩, by simp [intOf]; omega⟩
          · obtain rfl : k = (t).size := by omega
            have HVv : Hid (valF (chars (t)) 0 = v) := Lib.hid (by rw [HV.out, drop_end _ _ _ (chars_len (t)).symm (Nat.le_refl _)]; rfl)
            have HAl := Lib.hid (numOk_all (cs := cs) (by rw [← Ht.out, chars_len]; omega) (by rw [← Ht.out]; intro j hj; exact HG.out j (by rw [← chars_len]; exact hj)))
            clear HV HG
            have hv18 : v < 1000000000000000000 := by omega
            clear hp18 h18 hv1
            have HNV : Hid (numV cs = -v) := Lib.hid (by rw [HSg.out, HVv.out])
            have hwn : IntKind.i64.wrap (-v) = -v := IntWalk.i64_in _ (by omega)
            have hsi : (t.size : Int) < (s.size : Int) := by omega
            have HDc := Lib.hid ((fun n h0 h1 W _ => l01Dec_c n h0 h1 W) (-v) (by omega) (by omega) wr hb)
            have HE : Hid (numOk cs = decide (decB (-v) = s)) := Lib.hid (by rw [HAl.out, HNV.out, HCs.out])
            have m2 := beq_bytes (decB (-v)) s
            clear HAl HVv
            generalize decB (-v) = ds at *
            cases hdd : decide (ds = s)
            · rw [hdd] at m2 HE
              clear hdd
              go_wp2_with fail
              refine HDc.out.mono ?_
              rintro e w1 ⟨rfl, hb1⟩
              go_wp2
              go_ret2
              exact GivesNB.mk (numN_no HE.out) HE.out (bthen hb hb1)
            · rw [hdd] at m2 HE
              clear hdd
              go_wp2_with fail
              refine HDc.out.mono ?_
              rintro e w1 ⟨rfl, hb1⟩
              go_wp2
              go_ret2
              exact GivesNB.mk ((numN_yes HE.out).trans HNV.out) HE.out (bthen hb hb1)
      · have HX : Hid (numOk cs = false) := Lib.hid (numOk_len (cs := cs) (by rw [← Ht.out, chars_len]; omega))
        by_cases hL0 : s.size - 1 < 1
        · have hd1 : ((s.size - 1 : Nat) : Int) < 1 := by omega
          have hd3 : (((s.size - 1 : Nat) : Int) == 0) = true := by simp; omega
          go_enter Tryz.func69, Tryz.ntmps69
          go_wp2
          go_ret2
          exact GivesNB.mk (numN_no HX.out) HX.out (by go_grown)
        · have hd1 : ¬ (((s.size - 1 : Nat) : Int) < 1) := by omega
          have hd3 : (((s.size - 1 : Nat) : Int) == 0) = false := beq_eq_false_iff_ne.2 (by omega)
          have hd2 : decide ((18 : Int) < ((s.size - 1 : Nat) : Int)) = true := decide_eq_true (by omega)
          go_enter Tryz.func69, Tryz.ntmps69
          go_wp2
          go_ret2
          exact GivesNB.mk (numN_no HX.out) HX.out (by go_grown)
    · have he45 : (nth cs 0 == 45) = false := beq_eq_false_iff_ne.2 h45
      have Ht : Hid (chars s = tN cs) := Lib.hid (by unfold tN; rw [if_neg h45]; exact hcs)
      have HSg : Hid (numV cs = valF (chars s) 0) := Lib.hid (by rw [Ht.out]; unfold numV; rw [if_neg h45])
      clear hce h45 hcs
      by_cases hL : 1 ≤ s.size ∧ s.size ≤ 18
      · obtain ⟨hL1, hL2⟩ := hL
        have hd1 : ¬ ((s.size : Int) < 1) := by omega
        have hd2 : decide ((18 : Int) < (s.size : Int)) = false := decide_eq_false (by omega)
        have hd3 : ((s.size : Int) == 0) = false := beq_eq_false_iff_ne.2 (by omega)
        have hsz : s.size = s.size := rfl
        go_enter Tryz.func69, Tryz.ntmps69
        go_wp2
        go_loopw [5, 6] (fun x i wr => ∃ (k : Nat) (v : Int), i = .int .i64 k ∧ x = .int .i64 v ∧ k ≤ (s).size ∧ 0 ≤ v ∧ v < ((10 ^ k : Nat) : Int) ∧ Hid (valF (chars (s)) 0 = valF ((chars (s)).drop k) v) ∧ Hid (∀ j, j < k → digitB (nth (chars (s)) j) = true) ∧ Below w.heap.size w wr) (fun _ i _ => (s).size - (intOf i).toNat)
        case atStart => exact ⟨0, 0, rfl, rfl, Nat.zero_le _, Int.le_refl _, by decide, Lib.hid rfl, Lib.hid (fun j h => absurd h (Nat.not_lt_zero _)), Below.refl _ _⟩
        case round =>
          obtain ⟨k, v, rfl, rfl, hk, hv0, hv1, HV, HG, hb⟩ := hrel
          have hp18 : 10 ^ k ≤ 10 ^ 18 := Nat.pow_le_pow_right (by decide) (by omega)
          have h18 : (10 : Nat) ^ 18 = 1000000000000000000 := by decide
          by_cases hlt : k < (s).size
          · have hcn := (chars_nth (s) k hlt).symm
            have hkl : k < (chars (s)).length := by rw [chars_len]; exact hlt
            have HT := Lib.hid (HV.out.trans (valF_step (chars (s)) v k hkl))
            have hp17 : 10 ^ (k + 1) ≤ 10 ^ 18 := Nat.pow_le_pow_right (by decide) (by omega)
            have hps : 10 ^ (k + 1) = 10 ^ k * 10 := Nat.pow_succ ..
            have HBad := Lib.hid (fun h => numOk_bad (cs := cs) (k := k) (by rw [← Ht.out]; exact hkl) (by rw [← Ht.out]; exact h))
            have HG2 : Hid (digitB (nth (chars (s)) k) = true → ∀ j, j < k + 1 → digitB (nth (chars (s)) j) = true) := Lib.hid (fun h j hj => by
              rcases Nat.lt_succ_iff_lt_or_eq.1 hj with h1 | rfl
              · exact HG.out j h1
              · exact h)
            have HQ := Lib.hid (fun W => l01Digit_c (nth (chars (s)) k) W)
            clear HV HG hkl
            generalize nth (chars (s)) k = c at *
            cases hD : digitB c
            · rw [hD] at HQ
              have HX := Lib.hid (HBad.out hD)
              clear HBad HG2 hD HT
              go_wp2_with fail
              refine (HQ.out _).mono ?_
              rintro e w1 ⟨rfl, hb1⟩
              go_wp2
              go_ret2
              exact GivesNB.mk (numN_no HX.out) HX.out (bthen hb hb1)
            · rw [hD] at HQ
              have HG3 := Lib.hid (HG2.out hD)
              have hcd : 48 ≤ c ∧ c ≤ 57 := by unfold digitB at hD; simpa using hD
              clear HBad HG2 hD
              have hw1 : IntKind.i64.wrap (10 * v) = 10 * v := IntWalk.i64_in _ (by omega)
              have hw2 : IntKind.u8.wrap (c - 48) = c - 48 := IntWalk.u8_in _ (by omega)
              have hw3 : IntKind.i64.wrap (c - 48) = c - 48 := IntWalk.i64_in _ (by omega)
              have hw4 : IntKind.i64.wrap (10 * v + (c - 48)) = 10 * v + (c - 48) := IntWalk.i64_in _ (by omega)
              have hv2 : 10 * v + (c - 48) < ((10 ^ (k + 1) : Nat) : Int) := by omega
              have hv3 : 0 ≤ 10 * v + (c - 48) := by omega
              clear hp17 hps hp18 h18 hv1
              go_wp2_with fail
              refine (HQ.out _).mono ?_
              rintro e w1 ⟨rfl, hb1⟩
              go_wp2
              exact ⟨⟨k + 1, _, by go_num, rfl, hlt, hv3, hv2, HT, HG3, bthen hb hb1⟩, by simp [intOf]; omega⟩
          · obtain rfl : k = (s).size := by omega
            have HVv : Hid (valF (chars (s)) 0 = v) := Lib.hid (by rw [HV.out, drop_end _ _ _ (chars_len (s)).symm (Nat.le_refl _)]; rfl)
            have HAl := Lib.hid (numOk_all (cs := cs) (by rw [← Ht.out, chars_len]; omega) (by rw [← Ht.out]; intro j hj; exact HG.out j (by rw [← chars_len]; exact hj)))
            clear HV HG
            have hv18 : v < 1000000000000000000 := by omega
            clear hp18 h18 hv1
            have HNV : Hid (numV cs = v) := Lib.hid (by rw [HSg.out, HVv.out])
            have hwn : IntKind.i64.wrap (-v) = -v := IntWalk.i64_in _ (by omega)
            have hsi : ¬ (s.size : Int) < (s.size : Int) := by omega
            have HDc := Lib.hid ((fun n h0 h1 W _ => l01Dec_c n h0 h1 W) (v) (by omega) (by omega) wr hb)
            have HE : Hid (numOk cs = decide (decB (v) = s)) := Lib.hid (by rw [HAl.out, HNV.out, HCs.out])
            have m2 := beq_bytes (decB (v)) s
            clear HAl HVv
            generalize decB (v) = ds at *
            cases hdd : decide (ds = s)
            · rw [hdd] at m2 HE
              clear hdd
              go_wp2_with fail
              refine HDc.out.mono ?_
              rintro e w1 ⟨rfl, hb1⟩
              go_wp2
              go_ret2
              exact GivesNB.mk (numN_no HE.out) HE.out (bthen hb hb1)
            · rw [hdd] at m2 HE
              clear hdd
              go_wp2_with fail
              refine HDc.out.mono ?_
              rintro e w1 ⟨rfl, hb1⟩
              go_wp2
              go_ret2
              exact GivesNB.mk ((numN_yes HE.out).trans HNV.out) HE.out (bthen hb hb1)
      · have HX : Hid (numOk cs = false) := Lib.hid (numOk_len (cs := cs) (by rw [← Ht.out, chars_len]; exact hL))
        have hd1 : ¬ ((s.size : Int) < 1) := by omega
        have hd3 : ((s.size : Int) == 0) = false := beq_eq_false_iff_ne.2 (by omega)
        have hd2 : decide ((18 : Int) < (s.size : Int)) = true := decide_eq_true (by omega)
        go_enter Tryz.func69, Tryz.ntmps69
        go_wp2
        go_ret2
        exact GivesNB.mk (numN_no HX.out) HX.out (by go_grown)
set_option maxHeartbeats 4000000 in
theorem readDecimal_c (s : ByteArray) (w : World) (hs : s.size ≤ 1048576) (ht : TabW w) : Calls Tryz.prog 62 #[.string s] w (GivesNB (numN (chars s)) (numOk (chars s)) w) := by
  have HCs : Hid (strOfNums (chars s) = s) := Lib.hid (strOf_chars s)
  have hcl := chars_len s
  have hce : s.extract 1 s.size = strOfNums ((chars s).drop 1) := by
    rw [extract_str, List.take_of_length_le (by rw [chars_len]; exact Nat.le_refl _)]
  have Hin := Lib.hid (chars_in s)
  by_cases h0 : s.size = 0
  · have he : s.toList.isEmpty = true := by rw [isEmpty_size]; exact decide_eq_true h0
    have hp0 : decide (0 < s.size) = false := decide_eq_false (by omega)
    have hd1 : (s.size : Int) < 1 := by omega
    have hd3 : ((s.size : Int) == 0) = true := by rw [h0]; rfl
    have HX : Hid (numOk (chars s) = false) := Lib.hid (numOk_len (cs := chars s) (fun h => by have := tN_len (chars s); have := h.1; omega))
    clear h0
    go_enter Tryz.func62, Tryz.ntmps62
    go_wp2
    go_ret2
    exact GivesNB.mk (numN_no HX.out) HX.out (Below.refl _ _)
  · have he : s.toList.isEmpty = false := by rw [isEmpty_size]; exact decide_eq_false h0
    have hp0 : decide (0 < s.size) = true := decide_eq_true (by omega)
    have hpos : 0 < s.size := by omega
    have hc0 := (chars_nth s 0 hpos).symm
    generalize hcs : chars s = cs at *
    clear h0
    by_cases h45 : nth cs 0 = 45
    · have he45 : (nth cs 0 == 45) = true := by rw [h45]; rfl
      have hsz : (strOfNums (cs.drop 1)).size = s.size - 1 := by rw [strOfNums_size, List.length_drop]; omega
      have Ht : Hid (chars (strOfNums (cs.drop 1)) = tN cs) := Lib.hid (by unfold tN; rw [if_pos h45, chars_strOf (fun x hx => Hin.out x (List.mem_of_mem_drop hx))])
      have HSg : Hid (numV cs = - valF (chars (strOfNums (cs.drop 1))) 0) := Lib.hid (by rw [Ht.out]; unfold numV; rw [if_pos h45])
      rw [← hce] at Ht HSg hsz
      clear hce h45 hcs
      have hle1 : 1 ≤ s.size := hpos
      by_cases hL : 1 ≤ s.size - 1 ∧ s.size - 1 ≤ 18
      · obtain ⟨hL1, hL2⟩ := hL
        have hd1 : ¬ (((s.size - 1 : Nat) : Int) < 1) := by omega
        have hd2 : decide ((18 : Int) < ((s.size - 1 : Nat) : Int)) = false := decide_eq_false (by omega)
        have hd3 : (((s.size - 1 : Nat) : Int) == 0) = false := beq_eq_false_iff_ne.2 (by omega)
        go_enter Tryz.func62, Tryz.ntmps62
        go_wp2
        generalize s.extract 1 s.size = t at *
        go_loopw [5, 28] (fun x i wr => ∃ (k : Nat) (v : Int), i = .int .i64 k ∧ x = .int .i64 v ∧ k ≤ (t).size ∧ 0 ≤ v ∧ v < ((10 ^ k : Nat) : Int) ∧ Hid (valF (chars (t)) 0 = valF ((chars (t)).drop k) v) ∧ Hid (∀ j, j < k → digitB (nth (chars (t)) j) = true) ∧ Below w.heap.size w wr) (fun _ i _ => (t).size - (intOf i).toNat)
        case atStart => exact ⟨0, 0, rfl, rfl, Nat.zero_le _, Int.le_refl _, by decide, Lib.hid rfl, Lib.hid (fun j h => absurd h (Nat.not_lt_zero _)), Below.refl _ _⟩
        case round =>
          obtain ⟨k, v, rfl, rfl, hk, hv0, hv1, HV, HG, hb⟩ := hrel
          have hp18 : 10 ^ k ≤ 10 ^ 18 := Nat.pow_le_pow_right (by decide) (by omega)
          have h18 : (10 : Nat) ^ 18 = 1000000000000000000 := by decide
          by_cases hlt : k < (t).size
          · have hcn := (chars_nth (t) k hlt).symm
            have hkl : k < (chars (t)).length := by rw [chars_len]; exact hlt
            have HT := Lib.hid (HV.out.trans (valF_step (chars (t)) v k hkl))
            have hp17 : 10 ^ (k + 1) ≤ 10 ^ 18 := Nat.pow_le_pow_right (by decide) (by omega)
            have hps : 10 ^ (k + 1) = 10 ^ k * 10 := Nat.pow_succ ..
            have HBad := Lib.hid (fun h => numOk_bad (cs := cs) (k := k) (by rw [← Ht.out]; exact hkl) (by rw [← Ht.out]; exact h))
            have HG2 : Hid (digitB (nth (chars (t)) k) = true → ∀ j, j < k + 1 → digitB (nth (chars (t)) j) = true) := Lib.hid (fun h j hj => by
              rcases Nat.lt_succ_iff_lt_or_eq.1 hj with h1 | rfl
              · exact HG.out j h1
              · exact h)
            have HQ := Lib.hid (fun W => isDigit_c (nth (chars (t)) k) W)
            clear HV HG hkl
            generalize nth (chars (t)) k = c at *
            cases hD : digitB c
            · rw [hD] at HQ
              have HX := Lib.hid (HBad.out hD)
              clear HBad HG2 hD HT
              go_wp2_with fail
              refine (HQ.out _).mono ?_
              rintro e w1 ⟨rfl, hb1⟩
              go_wp2
              go_ret2
              exact GivesNB.mk (numN_no HX.out) HX.out (bthen hb hb1)
            · rw [hD] at HQ
              have HG3 := Lib.hid (HG2.out hD)
              have hcd : 48 ≤ c ∧ c ≤ 57 := by unfold digitB at hD; simpa using hD
              clear HBad HG2 hD
              have hw1 : IntKind.i64.wrap (10 * v) = 10 * v := IntWalk.i64_in _ (by omega)
              have hw2 : IntKind.u8.wrap (c - 48) = c - 48 := IntWalk.u8_in _ (by omega)
              have hw3 : IntKind.i64.wrap (c - 48) = c - 48 := IntWalk.i64_in _ (by omega)
              have hw4 : IntKind.i64.wrap (10 * v + (c - 48)) = 10 * v + (c - 48) := IntWalk.i64_in _ (by omega)
              have hv2 : 10 * v + (c - 48) < ((10 ^ (k + 1) : Nat) : Int) := by omega
              have hv3 : 0 ≤ 10 * v + (c - 48) := by omega
              clear hp17 hps hp18 h18 hv1
              go_wp2_with fail
              refine (HQ.out _).mono ?_
              rintro e w1 ⟨rfl, hb1⟩
              go_wp2
              exact ⟨⟨k + 1, _, by go_num, rfl, hlt, hv3, hv2, HT, HG3, bthen hb hb1⟩, by simp [intOf]; omega⟩
          · obtain rfl : k = (t).size := by omega
            have HVv : Hid (valF (chars (t)) 0 = v) := Lib.hid (by rw [HV.out, drop_end _ _ _ (chars_len (t)).symm (Nat.le_refl _)]; rfl)
            have HAl := Lib.hid (numOk_all (cs := cs) (by rw [← Ht.out, chars_len]; omega) (by rw [← Ht.out]; intro j hj; exact HG.out j (by rw [← chars_len]; exact hj)))
            clear HV HG
            have hv18 : v < 1000000000000000000 := by omega
            clear hp18 h18 hv1
            have HNV : Hid (numV cs = -v) := Lib.hid (by rw [HSg.out, HVv.out])
            have hwn : IntKind.i64.wrap (-v) = -v := IntWalk.i64_in _ (by omega)
            have hsi : (t.size : Int) < (s.size : Int) := by omega
            have HDc := Lib.hid ((fun n h0 h1 W (hW : Below w.heap.size w W) => decimal_c n h0 h1 W (ht.below hW)) (-v) (by omega) (by omega) wr hb)
            have HE : Hid (numOk cs = decide (decB (-v) = s)) := Lib.hid (by rw [HAl.out, HNV.out, HCs.out])
            have m2 := beq_bytes (decB (-v)) s
            clear HAl HVv
            generalize decB (-v) = ds at *
            cases hdd : decide (ds = s)
            · rw [hdd] at m2 HE
              clear hdd
              go_wp2_with fail
              refine HDc.out.mono ?_
              rintro e w1 ⟨rfl, hb1⟩
              go_wp2
              go_ret2
              exact GivesNB.mk (numN_no HE.out) HE.out (bthen hb hb1)
            · rw [hdd] at m2 HE
              clear hdd
              go_wp2_with fail
              refine HDc.out.mono ?_
              rintro e w1 ⟨rfl, hb1⟩
              go_wp2
              go_ret2
              exact GivesNB.mk ((numN_yes HE.out).trans HNV.out) HE.out (bthen hb hb1)
      · have HX : Hid (numOk cs = false) := Lib.hid (numOk_len (cs := cs) (by rw [← Ht.out, chars_len]; omega))
        by_cases hL0 : s.size - 1 < 1
        · have hd1 : ((s.size - 1 : Nat) : Int) < 1 := by omega
          have hd3 : (((s.size - 1 : Nat) : Int) == 0) = true := by simp; omega
          go_enter Tryz.func62, Tryz.ntmps62
          go_wp2
          go_ret2
          exact GivesNB.mk (numN_no HX.out) HX.out (by go_grown)
        · have hd1 : ¬ (((s.size - 1 : Nat) : Int) < 1) := by omega
          have hd3 : (((s.size - 1 : Nat) : Int) == 0) = false := beq_eq_false_iff_ne.2 (by omega)
          have hd2 : decide ((18 : Int) < ((s.size - 1 : Nat) : Int)) = true := decide_eq_true (by omega)
          go_enter Tryz.func62, Tryz.ntmps62
          go_wp2
          go_ret2
          exact GivesNB.mk (numN_no HX.out) HX.out (by go_grown)
    · have he45 : (nth cs 0 == 45) = false := beq_eq_false_iff_ne.2 h45
      have Ht : Hid (chars s = tN cs) := Lib.hid (by unfold tN; rw [if_neg h45]; exact hcs)
      have HSg : Hid (numV cs = valF (chars s) 0) := Lib.hid (by rw [Ht.out]; unfold numV; rw [if_neg h45])
      clear hce h45 hcs
      by_cases hL : 1 ≤ s.size ∧ s.size ≤ 18
      · obtain ⟨hL1, hL2⟩ := hL
        have hd1 : ¬ ((s.size : Int) < 1) := by omega
        have hd2 : decide ((18 : Int) < (s.size : Int)) = false := decide_eq_false (by omega)
        have hd3 : ((s.size : Int) == 0) = false := beq_eq_false_iff_ne.2 (by omega)
        have hsz : s.size = s.size := rfl
        go_enter Tryz.func62, Tryz.ntmps62
        go_wp2
        go_loopw [5, 28] (fun x i wr => ∃ (k : Nat) (v : Int), i = .int .i64 k ∧ x = .int .i64 v ∧ k ≤ (s).size ∧ 0 ≤ v ∧ v < ((10 ^ k : Nat) : Int) ∧ Hid (valF (chars (s)) 0 = valF ((chars (s)).drop k) v) ∧ Hid (∀ j, j < k → digitB (nth (chars (s)) j) = true) ∧ Below w.heap.size w wr) (fun _ i _ => (s).size - (intOf i).toNat)
        case atStart => exact ⟨0, 0, rfl, rfl, Nat.zero_le _, Int.le_refl _, by decide, Lib.hid rfl, Lib.hid (fun j h => absurd h (Nat.not_lt_zero _)), Below.refl _ _⟩
        case round =>
          obtain ⟨k, v, rfl, rfl, hk, hv0, hv1, HV, HG, hb⟩ := hrel
          have hp18 : 10 ^ k ≤ 10 ^ 18 := Nat.pow_le_pow_right (by decide) (by omega)
          have h18 : (10 : Nat) ^ 18 = 1000000000000000000 := by decide
          by_cases hlt : k < (s).size
          · have hcn := (chars_nth (s) k hlt).symm
            have hkl : k < (chars (s)).length := by rw [chars_len]; exact hlt
            have HT := Lib.hid (HV.out.trans (valF_step (chars (s)) v k hkl))
            have hp17 : 10 ^ (k + 1) ≤ 10 ^ 18 := Nat.pow_le_pow_right (by decide) (by omega)
            have hps : 10 ^ (k + 1) = 10 ^ k * 10 := Nat.pow_succ ..
            have HBad := Lib.hid (fun h => numOk_bad (cs := cs) (k := k) (by rw [← Ht.out]; exact hkl) (by rw [← Ht.out]; exact h))
            have HG2 : Hid (digitB (nth (chars (s)) k) = true → ∀ j, j < k + 1 → digitB (nth (chars (s)) j) = true) := Lib.hid (fun h j hj => by
              rcases Nat.lt_succ_iff_lt_or_eq.1 hj with h1 | rfl
              · exact HG.out j h1
              · exact h)
            have HQ := Lib.hid (fun W => isDigit_c (nth (chars (s)) k) W)
            clear HV HG hkl
            generalize nth (chars (s)) k = c at *
            cases hD : digitB c
            · rw [hD] at HQ
              have HX := Lib.hid (HBad.out hD)
              clear HBad HG2 hD HT
              go_wp2_with fail
              refine (HQ.out _).mono ?_
              rintro e w1 ⟨rfl, hb1⟩
              go_wp2
              go_ret2
              exact GivesNB.mk (numN_no HX.out) HX.out (bthen hb hb1)
            · rw [hD] at HQ
              have HG3 := Lib.hid (HG2.out hD)
              have hcd : 48 ≤ c ∧ c ≤ 57 := by unfold digitB at hD; simpa using hD
              clear HBad HG2 hD
              have hw1 : IntKind.i64.wrap (10 * v) = 10 * v := IntWalk.i64_in _ (by omega)
              have hw2 : IntKind.u8.wrap (c - 48) = c - 48 := IntWalk.u8_in _ (by omega)
              have hw3 : IntKind.i64.wrap (c - 48) = c - 48 := IntWalk.i64_in _ (by omega)
              have hw4 : IntKind.i64.wrap (10 * v + (c - 48)) = 10 * v + (c - 48) := IntWalk.i64_in _ (by omega)
              have hv2 : 10 * v + (c - 48) < ((10 ^ (k + 1) : Nat) : Int) := by omega
              have hv3 : 0 ≤ 10 * v + (c - 48) := by omega
              clear hp17 hps hp18 h18 hv1
              go_wp2_with fail
              refine (HQ.out _).mono ?_
              rintro e w1 ⟨rfl, hb1⟩
              go_wp2
              exact ⟨⟨k + 1, _, by go_num, rfl, hlt, hv3, hv2, HT, HG3, bthen hb hb1⟩, by simp [intOf]; omega⟩
          · obtain rfl : k = (s).size := by omega
            have HVv : Hid (valF (chars (s)) 0 = v) := Lib.hid (by rw [HV.out, drop_end _ _ _ (chars_len (s)).symm (Nat.le_refl _)]; rfl)
            have HAl := Lib.hid (numOk_all (cs := cs) (by rw [← Ht.out, chars_len]; omega) (by rw [← Ht.out]; intro j hj; exact HG.out j (by rw [← chars_len]; exact hj)))
            clear HV HG
            have hv18 : v < 1000000000000000000 := by omega
            clear hp18 h18 hv1
            have HNV : Hid (numV cs = v) := Lib.hid (by rw [HSg.out, HVv.out])
            have hwn : IntKind.i64.wrap (-v) = -v := IntWalk.i64_in _ (by omega)
            have hsi : ¬ (s.size : Int) < (s.size : Int) := by omega
            have HDc := Lib.hid ((fun n h0 h1 W (hW : Below w.heap.size w W) => decimal_c n h0 h1 W (ht.below hW)) (v) (by omega) (by omega) wr hb)
            have HE : Hid (numOk cs = decide (decB (v) = s)) := Lib.hid (by rw [HAl.out, HNV.out, HCs.out])
            have m2 := beq_bytes (decB (v)) s
            clear HAl HVv
            generalize decB (v) = ds at *
            cases hdd : decide (ds = s)
            · rw [hdd] at m2 HE
              clear hdd
              go_wp2_with fail
              refine HDc.out.mono ?_
              rintro e w1 ⟨rfl, hb1⟩
              go_wp2
              go_ret2
              exact GivesNB.mk (numN_no HE.out) HE.out (bthen hb hb1)
            · rw [hdd] at m2 HE
              clear hdd
              go_wp2_with fail
              refine HDc.out.mono ?_
              rintro e w1 ⟨rfl, hb1⟩
              go_wp2
              go_ret2
              exact GivesNB.mk ((numN_yes HE.out).trans HNV.out) HE.out (bthen hb hb1)
      · have HX : Hid (numOk cs = false) := Lib.hid (numOk_len (cs := cs) (by rw [← Ht.out, chars_len]; exact hL))
        have hd1 : ¬ ((s.size : Int) < 1) := by omega
        have hd3 : ((s.size : Int) == 0) = false := beq_eq_false_iff_ne.2 (by omega)
        have hd2 : decide ((18 : Int) < (s.size : Int)) = true := decide_eq_true (by omega)
        go_enter Tryz.func62, Tryz.ntmps62
        go_wp2
        go_ret2
        exact GivesNB.mk (numN_no HX.out) HX.out (by go_grown)
end Go.Proofs.YtclffohjpbmnbaaGreatDoor
