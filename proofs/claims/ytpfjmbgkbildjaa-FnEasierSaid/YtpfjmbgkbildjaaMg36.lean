import Derived.Test.YtpfjmbgkbildjaaMg20
import Derived.Test.YtpfjmbgkbildjaaMg21
import Derived.Test.YtpfjmbgkbildjaaMg35
import Derived.Test.YtpfjmbgkbildjaaMg18
import Derived.Test.YtpfjmbgkbildjaaMg8
import Derived.Test.YtpfjmbgkbildjaaMg28
/- EasyL: patterns in the order of their difficulty, by both packages. -/
namespace Go.Proofs.Ytpfjmbgkbildjaa
open Go.ChangeShapes Go.WideShapes Go.ChangeAt Go.RowKit

def easyK (l : List (List Int)) (x : Int) : Int := hardL (nth l x.toNat)
def zeroK (_ : Int) : Int := 0
def easyO (l : List (List Int)) (k : Nat) : List Int := orderL (easyK l) zeroK k
def easyC (l : List (List Int)) : Int := if (∀ x ∈ l, okPat x = true) then (if 100 < l.length then 5 else 0) else 1
def easyR (l : List (List Int)) : List Int := if easyC l = 0 then easyO l l.length else []
theorem easyR_nil {l : List (List Int)} {c : Int} (h : easyC l = c) (hc : c ≠ 0) : easyR l = [] := by unfold easyR; rw [h, if_neg hc]
theorem easyO_len (l : List (List Int)) (k : Nat) : (easyO l k).length = k := order_len _ _ _
theorem easyR_len (l : List (List Int)) : (easyR l).length ≤ 1099511627776 := by
  unfold easyR
  split
  · rename_i h
    unfold easyC at h
    rw [easyO_len]
    split at h
    · split at h
      · exact absurd h (by decide)
      · omega
    · exact absurd h (by decide)
  · exact Nat.zero_le _
theorem easy_bad {l : List (List Int)} {k : Nat} (hk : k < l.length) (h : okPat (nth l k) = false) : easyC l = 1 := by
  unfold easyC
  rw [if_neg]
  intro hall
  rw [hall _ (mem_nth hk)] at h
  exact absurd h (by decide)
theorem easy_all {l : List (List Int)} (h : ∀ j, j < l.length → okPat (nth l j) = true) : ∀ x ∈ l, okPat x = true := by
  intro x hx
  obtain ⟨i, hi, rfl⟩ := List.getElem_of_mem hx
  rw [← nth_eq l i hi]; exact h i hi
theorem easy_ltK (l : List (List Int)) (p q : Nat) : ltK (easyK l) zeroK p q = decide (hardL (nth l p) < hardL (nth l q)) := by
  unfold ltK easyK zeroK
  simp only [Int.toNat_natCast]
  exact decide_eq_decide.2 (by omega)
set_option maxHeartbeats 2000000 in
theorem easyLess (l : List (List Int)) (a : Option Addr) (n cap : Nat) (B1 B2 : Nat) (a2 : Option Addr) (m c2 : Nat) (d : List Int) (W : World) (h1 : W.cell? ⟨B1, 0, none⟩ = some (.slice a n cap)) (h2 : W.cell? ⟨B2, 0, none⟩ = some (.slice a2 m c2))
    (hc : NestC intssS W a l) (hn : n = l.length) (hok : ∀ x ∈ l, okPat x = true) (hd : IntsC W a2 d) (hm : m = d.length) (ho : ∀ x ∈ d, ∃ k : Nat, k < n ∧ x = (k : Int)) (i j : Nat) (hi : i < m) (hj : j < m) :
    Calls Try.prog 62 #[.int .i64 i, .int .i64 j, .pointer (some ⟨B1, 0, none⟩), .pointer (some ⟨B2, 0, none⟩)] W fun e w' => e = .returned (.bool (ltK (easyK l) zeroK (nth d i) (nth d j))) ∧ Below W.heap.size W w' := by
  obtain ⟨b', o', rfl, hbs', di⟩ := hd i (by omega)
  obtain ⟨b2, o2, he, -, dj⟩ := hd j (by omega)
  cases he
  obtain ⟨p, hp, ep⟩ := ho _ (mem_nth (l := d) (i := i) (by omega))
  obtain ⟨q, hq, eq⟩ := ho _ (mem_nth (l := d) (i := j) (by omega))
  obtain ⟨b, o, pa, pn, pc, rfl, hbs, hp1, p0⟩ := intss_cells hc p (by omega)
  obtain ⟨b3, o3, qa, qn, qc, he, -, hq1, q0⟩ := intss_cells hc q (by omega)
  cases he
  have HM1 := Lib.hid (fun W' (x : Below W.heap.size W W') => difficulty_c (.slice pa pn pc) (nth l p) W' (hp1.below x) (okPat_throws (hok _ (mem_nth (by omega)))))
  have HM2 := Lib.hid (fun W' (x : Below W.heap.size W W') => difficulty_c (.slice qa qn qc) (nth l q) W' (hq1.below x) (okPat_throws (hok _ (mem_nth (by omega)))))
  have HK : Hid (ltK (easyK l) zeroK (nth d i) (nth d j) = decide (hardL (nth l p) < hardL (nth l q))) := Lib.hid (by rw [ep, eq]; exact easy_ltK l p q)
  rw [ep] at di
  rw [eq] at dj
  clear ep eq ho hc hd hn hm hp1 hq1 hok
  generalize hardL (nth l p) = X at *
  generalize hardL (nth l q) = Y at *
  have k1 := cell_regrown h1
  have k2 := cell_regrown h2
  have k3 := cell_regrown di
  have k4 := cell_regrown dj
  have k5 := cell_regrown p0
  have k6 := cell_regrown q0
  clear h1 h2 di dj p0 q0
  go_enter Try.func62, Try.ntmps62
  go_wp2
  refine wp_region_quiet_below (by kernel_rfl) (by kernel_rfl) ?_
  repeat (first | go_big_quiet_step (first | with_reducible exact Calls.regrown_of (HM1.out _ (below_regrown _ _ _)) | with_reducible exact Calls.regrown_of (HM2.out _ (below_regrown _ _ _))) | quiet_step (first | with_reducible exact Calls.regrown_of (HM1.out _ (below_regrown _ _ _)) | with_reducible exact Calls.regrown_of (HM2.out _ (below_regrown _ _ _))))
  refine wpQuiet_nil ?_
  intro _ hw'
  obtain ⟨⟨dq, osq⟩, hw''⟩ := hw'
  subst hw''
  have hbq := below_regrown W dq osq
  generalize Go.Sort.grow (redrawn W dq) osq = wq at *
  go_wp2
  go_ret
  exact ⟨by rw [HK.out]; rfl, hbq⟩
set_option maxHeartbeats 4000000 in
theorem iEasierFirst_c (v : Value) (l : List (List Int)) (w : World) (hv : IntssAt w v l) (hl20 : l.length ≤ 1048576) : Calls Try.prog 27 #[v] w (GivesIntsC (easyR l) (easyC l) w) := by
  obtain ⟨a, n, cap, rfl, hn, hl, hm, hc⟩ := hv
  have Hc := Lib.hid hc; clear hc
  have hn20 : n ≤ 1048576 := by omega
  have Hn := Lib.hid hn; clear hn hl20
  have HB1 : Hid (BoxIs (((w.alloc (.cells #[.slice a n cap] 35)).alloc (.cells #[] 2)).alloc (.cells #[.slice (some ⟨w.heap.size + 1, 0, none⟩) 0 0] 24)) w.heap.size [.slice a n cap]) := Lib.hid ((((BoxIs.new w [.slice a n cap] 35)).alloc _).alloc _)
  have HB2 : Hid (BoxIs (((w.alloc (.cells #[.slice a n cap] 35)).alloc (.cells #[] 2)).alloc (.cells #[.slice (some ⟨w.heap.size + 1, 0, none⟩) 0 0] 24)) (w.heap.size + 2) [.slice (some ⟨w.heap.size + 1, 0, none⟩) 0 0]) := Lib.hid (BoxIs.new' (by simp) [.slice (some ⟨w.heap.size + 1, 0, none⟩) 0 0] 24)
  have HO0 : Hid (OwnInts (((w.alloc (.cells #[.slice a n cap] 35)).alloc (.cells #[] 2)).alloc (.cells #[.slice (some ⟨w.heap.size + 1, 0, none⟩) 0 0] 24)) (w.heap.size + 1) (.slice (some ⟨w.heap.size + 1, 0, none⟩) 0 0) (iota 0)) := Lib.hid ((by simpa using own_empty (w.alloc (.cells #[.slice a n cap] 35)) : OwnInts ((w.alloc (.cells #[.slice a n cap] 35)).alloc (.cells #[] 2)) (w.heap.size + 1) (.slice (some ⟨w.heap.size + 1, 0, none⟩) 0 0) []).alloc _)
  have HN0 : Hid ((Value.slice (some ⟨w.heap.size + 1, 0, none⟩) 0 0).ownBlock ≠ some (w.heap.size + 2)) := Lib.hid (by simp [Value.ownBlock])
  have e0 := HB1.out.cells.1 0
  simp only [List.getElem?_cons_zero] at e0
  go_enter Try.func27, Try.ntmps27
  go_wp2
  go_loopw [10] (fun i wr => ∃ (k : Nat) (a' : Option Addr) (c' : Nat), i = .int .i64 k ∧ k ≤ n ∧ Hid (BoxIs wr w.heap.size [.slice a n cap]) ∧ Hid (BoxIs wr (w.heap.size + 2) [.slice a' k c']) ∧ Hid (OwnInts wr (w.heap.size + 1) (.slice a' k c') (iota k)) ∧ Hid ((Value.slice a' k c').ownBlock ≠ some (w.heap.size + 2)) ∧ w.heap.size + 3 ≤ wr.heap.size ∧ Hid (∀ j, j < k → okPat (nth l j) = true) ∧ Below w.heap.size w wr) (fun i _ => n - (intOf i).toNat)
  case atStart => exact ⟨0, _, _, rfl, Nat.zero_le _, HB1, HB2, HO0, HN0, by simp, Lib.hid (fun j h => absurd h (Nat.not_lt_zero _)), by go_grown⟩
  case round =>
    clear e0
    obtain ⟨k, a', c', rfl, hk, HA, HB, HO, HN, hs3, HG, hb⟩ := hrel
    by_cases hlt : k < n
    · have hkl : k < l.length := by rw [← Hn.out]; exact hlt
      obtain ⟨b, o, pa, pn, pc, rfl, hbs, hp, x0⟩ := intss_cells (Hc.out.below hb) k hkl
      have HQ := Lib.hid (validPattern_c (.slice pa pn pc) (nth l k) wr hp)
      cases hE : okPat (nth l k)
      · rw [hE] at HQ
        have HC := Lib.hid (easy_bad hkl hE)
        clear hp hE hkl
        go_wp2_with fail
        refine HQ.out.mono ?_
        rintro e w1 ⟨rfl, hb1⟩
        go_wp2
        go_ret2
        exact GivesIntsC.none (easyR_nil HC.out (by decide)) HC.out (bthen hb hb1)
      · rw [hE] at HQ
        have HG2 : Hid (∀ j, j < k + 1 → okPat (nth l j) = true) := Lib.hid (fun j hj => by
          rcases Nat.lt_succ_iff_lt_or_eq.1 hj with h | rfl
          · exact HG.out j h
          · exact hE)
        clear hp hE hkl HG
        go_wp2_with fail
        refine HQ.out.mono ?_
        rintro e w1 ⟨rfl, hb1⟩
        have hbb := bthen hb hb1
        have HA1 := Lib.hid (HA.out.below hb1)
        have HB1' := Lib.hid (HB.out.below hb1)
        have HO1 := Lib.hid (own_below HO.out hb1)
        have hs1 : w.heap.size + 3 ≤ w1.heap.size := Nat.le_trans hs3 hb1.size
        have e2 := HB1'.out.cells.1 0
        simp only [List.getElem?_cons_zero] at e2
        clear HA HB HO hb1 hb hs3
        go_wp2_with (at_builtin; refine wpList_app_ints rfl _ _ rfl (w.heap.size + 1) _ _ rfl (HO1.out.alloc _) _ _ _ [(k : Int)] rfl rfl (ints_new _ _ _) (by rw [iota_len]; simp; omega) (by simp; omega) ?_)
        intro a6 n6 c6 w6 ho6 hg6 hw6 hn6
        obtain rfl : n6 = k + 1 := by rw [iota_len] at hn6; exact hn6
        have hb6 : Below w.heap.size w w6 := (hbb.alloc (by omega) _).grown hg6 (by simp; omega) (fun g hg => by have := (World.ownsRow.lt HO1.out g hg).1; omega)
        have HA6 : Hid (BoxIs w6 w.heap.size [.slice (some ⟨b, o, none⟩) n cap]) := Lib.hid ((HA1.out.alloc _).grown hg6 (fun h => by have := (World.ownsRow.lt HO1.out _ h.symm).1; omega))
        have HB6 : Hid (BoxIs w6 (w.heap.size + 2) [.slice a' k c']) := Lib.hid ((HB1'.out.alloc _).grown hg6 (fun h => HN.out h.symm))
        have HN6 : Hid ((Value.slice a6 (k + 1) c6).ownBlock ≠ some (w.heap.size + 2)) := Lib.hid (by
          rcases hw6 with h | h
          · rw [h]; exact HN.out
          · rw [h]; simp; omega)
        have HO6 : Hid (OwnInts w6 (w.heap.size + 1) (.slice a6 (k + 1) c6) (iota (k + 1))) := Lib.hid (by rw [iota_succ]; exact ho6)
        have hs6 : w.heap.size + 3 ≤ w6.heap.size := by have := hg6.size; simp at this; omega
        clear ho6 hg6 hw6 hn6 e2
        obtain ⟨e6, f6⟩ := HB6.out.cells
        go_wp2
        exact ⟨⟨k + 1, a6, c6, by go_num, hlt, Lib.hid (HA6.out.set_other (by omega) _ _), Lib.hid (HB6.out.set 0 (by simp) _), Lib.hid (kown_off HO6.out _ HN6.out _), HN6, by simpa [World.setCell] using hs6, HG2, hb6.setCell (by show w.heap.size ≤ w.heap.size + 2; omega) _⟩, by simp [intOf]; omega⟩
    · obtain rfl : k = n := by omega
      have HAll := Lib.hid (easy_all (l := l) (fun j hj => HG.out j (by rw [Hn.out]; exact hj)))
      have HC0 : Hid (easyC l = if 100 < k then 5 else 0) := Lib.hid (by unfold easyC; rw [if_pos HAll.out, Hn.out])
      have e1 := HA.out.cells.1 0
      have e2 := HB.out.cells.1 0
      simp only [List.getElem?_cons_zero] at e1 e2
      by_cases h100 : 100 < k
      · have HC : Hid (easyC l = 5) := Lib.hid (by rw [HC0.out, if_pos h100])
        go_wp2
        go_ret2
        exact GivesIntsC.none (easyR_nil HC.out (by decide)) HC.out hb
      · have HC : Hid (easyC l = 0) := Lib.hid (by rw [HC0.out, if_neg h100])
        have hown : wr.ownsRow (w.heap.size + 1) 2 1 (.slice a' k c') k ((iota k).map (Value.int .i64)) := by
          have h := HO.out
          unfold OwnInts at h
          rwa [iota_len] at h
        have HS := Lib.hid (stableI64_c 62 (enters_of Try.func62 (by kernel_rfl) rfl) #[.pointer (some ⟨w.heap.size, 0, none⟩), .pointer (some ⟨w.heap.size + 2, 0, none⟩)] (ltK (easyK l) zeroK) (ltT (easyK l) zeroK) (ltT_tr _ _) a' k c' (w.heap.size + 1) (iota k) wr hown (iota_len k).symm (by rw [iota_len]; omega) (base_iota _ _ k) (by
          intro W d hp hg hW i j hi hj
          have hA := HA.out.grown hg (fun h => by have := (World.ownsRow.lt HO.out w.heap.size (by rw [own_block_slice]; exact h.symm)).1; omega)
          have hB := HB.out.grown hg (fun h => HN.out (by rw [own_block_slice]; exact h.symm))
          have hdl : d.length = k := hp.length_eq.trans (iota_len k)
          exact easyLess l a k cap w.heap.size (w.heap.size + 2) a' k c' d W (hA.2.1 0) (hB.2.1 0) (Hc.out.below (hb.grown hg (by omega) (fun g h => by have := (World.ownsRow.lt HO.out g (by rw [own_block_slice]; exact h)).1; omega))) Hn.out HAll.out (own_kc hW hdl.symm) hdl.symm (fun x hx => mem_iota.1 (hp.mem_iff.1 hx)) i j hi hj))
        clear hown
        go_wp2_with fail
        refine HS.out.mono ?_
        rintro e w2 ⟨rfl, l', p1, p2, o2, g2⟩
        have hb2 : Below w.heap.size w w2 := hb.grown g2 (by omega) (fun g h => by have := (World.ownsRow.lt HO.out g (by rw [own_block_slice]; exact h)).1; omega)
        have HB2' : Hid (BoxIs w2 (w.heap.size + 2) [.slice a' k c']) := Lib.hid (HB.out.grown g2 (fun h => HN.out (by rw [own_block_slice]; exact h.symm)))
        have hl' : l' = easyR l := by unfold easyR; rw [if_pos HC.out, ← Hn.out]; exact order_unique p1 p2
        have HR : Hid (OwnInts w2 w.heap.size (.slice a' k c') (easyR l)) := Lib.hid (by
          rw [← hl']
          have hlen : l'.length = k := p1.length_eq.trans (iota_len k)
          unfold OwnInts; rw [hlen]; exact own_monoO o2 (by omega))
        clear p1 p2 o2 g2 hl' HS e2 e1
        have e3 := HB2'.out.2.1 0
        simp only [List.getElem?_cons_zero] at e3
        go_wp2
        go_ret2
        exact GivesIntsC.mk HC.out HR.out hb2
theorem easyO_nth (l : List (List Int)) (k i : Nat) (h : i < k) : ∃ j : Nat, j < k ∧ nth (easyO l k) i = (j : Int) := order_nth _ _ k i h
theorem easyO_step (l : List (List Int)) (k : Nat) : easyO l (k + 1) = (easyO l k).take (posB (ltK (easyK l) zeroK) (easyO l k) k k) ++ (k : Int) :: (easyO l k).drop (posB (ltK (easyK l) zeroK) (easyO l k) k k) := order_step _ _ k
set_option maxRecDepth 100000 in
set_option maxHeartbeats 4000000 in
theorem sEasierFirst_c (v : Value) (l : List (List Int)) (w : World) (hv : IntssAt w v l) (hl20 : l.length ≤ 1048576) : Calls Try.prog 28 #[v] w (GivesIntsC (easyR l) (easyC l) w) := by
  obtain ⟨a, n, cap, rfl, hn, hl, hm, hc⟩ := hv
  have Hc := Lib.hid hc; clear hc
  have hn20 : n ≤ 1048576 := by omega
  have Hn := Lib.hid hn; clear hn hl20
  go_enter Try.func28, Try.ntmps28
  go_wp2
  go_loopw [4] (fun i wr => ∃ (k : Nat), i = .int .i64 k ∧ k ≤ n ∧ Hid (∀ j, j < k → okPat (nth l j) = true) ∧ Below w.heap.size w wr) (fun i _ => n - (intOf i).toNat)
  case atStart => exact ⟨0, rfl, Nat.zero_le _, Lib.hid (fun j h => absurd h (Nat.not_lt_zero _)), Below.refl _ _⟩
  case round =>
    obtain ⟨k, rfl, hk, HG, hb⟩ := hrel
    by_cases hlt : k < n
    · have hkl : k < l.length := by rw [← Hn.out]; exact hlt
      obtain ⟨b, o, pa, pn, pc, rfl, hbs, hp, x0⟩ := intss_cells (Hc.out.below hb) k hkl
      have HQ := Lib.hid (l02Ok_c (.slice pa pn pc) (nth l k) wr hp)
      cases hE : okPat (nth l k)
      · rw [hE] at HQ
        have HC := Lib.hid (easy_bad hkl hE)
        clear hp hE hkl
        go_wp2_with fail
        refine HQ.out.mono ?_
        rintro e w1 ⟨rfl, hb1⟩
        go_wp2
        go_ret2
        exact GivesIntsC.none (easyR_nil HC.out (by decide)) HC.out (bthen hb hb1)
      · rw [hE] at HQ
        have HG2 : Hid (∀ j, j < k + 1 → okPat (nth l j) = true) := Lib.hid (fun j hj => by
          rcases Nat.lt_succ_iff_lt_or_eq.1 hj with h | rfl
          · exact HG.out j h
          · exact hE)
        clear hp hE hkl HG
        go_wp2_with fail
        refine HQ.out.mono ?_
        rintro e w1 ⟨rfl, hb1⟩
        go_wp2
        exact ⟨⟨k + 1, by go_num, hlt, HG2, bthen hb hb1⟩, by simp [intOf]; omega⟩
    · obtain rfl : k = n := by omega
      have HAll := Lib.hid (easy_all (l := l) (fun j hj => HG.out j (by rw [Hn.out]; exact hj)))
      have HC0 : Hid (easyC l = if 100 < k then 5 else 0) := Lib.hid (by unfold easyC; rw [if_pos HAll.out, Hn.out])
      clear HG
      by_cases h100 : 100 < k
      · have HC : Hid (easyC l = 5) := Lib.hid (by rw [HC0.out, if_pos h100])
        go_wp2
        go_ret2
        exact GivesIntsC.none (easyR_nil HC.out (by decide)) HC.out hb
      · have HC : Hid (easyC l = 0) := Lib.hid (by rw [HC0.out, if_neg h100])
        clear HC0
        generalize hnk : k = n at *
        clear hnk hk hlt
        have hn100 : n ≤ 100 := by omega
        generalize wr = wb at *
        go_wp2
        go_loopw [5, 6] (fun s i wr => ∃ (k : Nat) (a1 : Option Addr) (c1 : Nat), s = .slice a1 k c1 ∧ i = .int .i64 k ∧ k ≤ n ∧ Hid (OwnInts wr w.heap.size (.slice a1 k c1) (easyO l k)) ∧ Below w.heap.size w wr) (fun _ i _ => n - (intOf i).toNat)
        case atStart => exact ⟨0, _, _, rfl, rfl, Nat.zero_le _, Lib.hid (own_monoO (own_empty wb) hb.size), hb.alloc hb.size _⟩
        case round =>
          clear hb
          obtain ⟨k, a1, c1, rfl, rfl, hk, HO, hb⟩ := hrel
          by_cases hlt : k < n
          · obtain ⟨ax, nx, cx, he, hlen, hkc, hcm, hA⟩ := OwnInts.at HO.out
            cases he
            have HA := Lib.hid hA; clear hA
            have Hlen := Lib.hid hlen; clear hlen
            have HSt := Lib.hid (easyO_step l k)
            have HNth := Lib.hid (easyO_nth l k)
            clear HO
            generalize easyO l k = acc at *
            generalize wr = W0 at *
            go_wp2
            go_loopw [7] (fun kk wr2 => ∃ p : Nat, kk = .int .i64 p ∧ p ≤ k ∧ Hid (posB (ltK (easyK l) zeroK) acc k k = posB (ltK (easyK l) zeroK) acc k p) ∧ Below W0.heap.size W0 wr2) (fun kk _ => (intOf kk).toNat)
            case atStart => exact ⟨k, rfl, Nat.le_refl _, Lib.hid rfl, Below.refl _ _⟩
            case round =>
              obtain ⟨p, rfl, hp, HP, hb2⟩ := hrel
              have OUT : Hid (p = posB (ltK (easyK l) zeroK) acc k k → acc.take p ++ (k : Int) :: acc.drop p = easyO l (k + 1)) := Lib.hid (fun h => by rw [HSt.out, ← h])
              have HIns := Lib.hid (fun W x => l00Own_c (.slice a1 p c1) (acc.take p) W x (by rw [List.length_take]; omega))
              have HCut : Hid (IntsAt wr (.slice a1 p c1) (acc.take p)) := Lib.hid (ordCut (HA.out.below hb2) (by rw [← Hlen.out]; exact hp) (by rw [← Hlen.out]; exact hkc) hcm)
              by_cases hp0 : p = 0
              · subst hp0
                have HE : Hid ((acc.take 0 ++ [(k : Int)]) ++ acc = easyO l (k + 1)) := Lib.hid (OUT.out (by rw [HP.out]; rfl))
                clear OUT HP
                go_wp2
                go_quiet (fail)
                replace HCut : Hid (IntsAt (wr.drewN nq) (.slice a1 0 c1) (acc.take 0)) := Lib.hid (HCut.out.below (below_drewN (Below.refl _ _) _))
                replace hb2 : Below W0.heap.size W0 (wr.drewN nq) := below_drewN hb2 nq
                generalize wr.drewN nq = wr at *
                go_wp2_with fail
                refine (HIns.out _ HCut.out).mono ?_
                rintro e w5 ⟨a5, n5, c5, rfl, ho5, hb5'⟩
                have HO5 := Lib.hid ho5
                clear ho5
                have hs5 := hb5'.size
                have hsW := hb2.size
                have hsw := hb.size
                have HlR : Hid ((acc).length ≤ 10000) := Lib.hid (by have := Hlen.out; simp; try omega)
                have Hl6 : Hid ((acc.take 0).length ≤ 10000) := Lib.hid (by rw [List.length_take, ← Hlen.out]; omega)
                go_wp2_with (at_builtin; (refine wpList_app_ints rfl _ _ rfl wr.heap.size _ _ rfl (HO5.out.alloc _) _ _ _ [((k : Int))] rfl rfl (ints_new _ _ _) (by have := Hl6.out; simp only [List.length_cons, List.length_nil]; omega) (by simp; omega) ?_))
                intro a6 n6 c6 w6 ho6 hg6 _ hn6
                clear hn6
                have hb6 : Below wr.heap.size wr w6 := (hb5'.alloc (by omega) _).grown hg6 (by simp; omega) (fun g hg => (World.ownsRow.lt HO5.out g hg).1)
                have HO6 := Lib.hid ho6
                clear ho6 hg6
                go_wp2_with (at_builtin; (refine wpList_app_ints rfl _ _ rfl wr.heap.size _ _ rfl HO6.out _ _ _ (acc) rfl (by exact Hlen.out) ((HA.out.below hb2).below hb6) (by have := Hl6.out; have := HlR.out; (repeat rw [List.length_append]); (repeat rw [List.length_cons]); (try rw [List.length_nil]); omega) hb6.size ?_))
                intro a7 n7 c7 w7 ho7 hg7 _ hn7
                have hb7 : Below wr.heap.size wr w7 := hb6.grown hg7 hb6.size (fun g hg => (World.ownsRow.lt HO6.out g hg).1)
                obtain rfl : n7 = k + 1 := by have := Hlen.out; (try simp only [List.length_append, List.length_take, List.length_drop, List.length_cons, List.length_nil] at hn7); omega
                have HO7 : Hid (OwnInts w7 w.heap.size (.slice a7 (k + 1) c7) (easyO l (k + 1))) := Lib.hid (by have h : OwnInts w7 w.heap.size _ _ := own_monoO ho7 (by omega); have e := HE.out; first | rwa [e] at h | (simp only [List.take_zero, List.nil_append, List.singleton_append] at e; rwa [e] at h) | (simp only [List.append_nil] at e; rwa [e] at h) | (simp only [List.append_assoc, List.singleton_append] at e; rwa [e] at h) | (simp at e; simp at h; rwa [e] at h))
                clear ho7 hg7 hn7 HO6 HO5 HIns HCut
                go_wp2
                exact ⟨⟨k + 1, a7, c7, rfl, by go_num, hlt, HO7, bthen hb (bthen hb2 hb7)⟩, by simp [intOf]; omega⟩
              · have hpp : p - 1 < k := by omega
                obtain ⟨q, hq, eq⟩ := HNth.out (p - 1) hpp
                obtain ⟨b5, o5, rfl, hb5, f0⟩ := (HA.out.below hb2) (p - 1) (by rw [← Hlen.out]; omega)
                rw [eq] at f0
                obtain ⟨b, o, pa, pn, pc, rfl, hbs, hx1, x0⟩ := intss_cells (Hc.out.below (bthen hb hb2)) k (by rw [← Hn.out]; exact hlt)
                obtain ⟨b', o', qa, qn, qc, he, -, hy1, y0⟩ := intss_cells (Hc.out.below (bthen hb hb2)) q (by rw [← Hn.out]; omega)
                cases he
                have HM1 := Lib.hid (fun W' (x : Below wr.heap.size wr W') => l20Hard_c (.slice pa pn pc) (nth l k) W' (hx1.below x) (okPat_throws (HAll.out _ (mem_nth (by rw [← Hn.out]; exact hlt)))))
                have HM2 := Lib.hid (fun W' (x : Below wr.heap.size wr W') => l20Hard_c (.slice qa qn qc) (nth l q) W' (hy1.below x) (okPat_throws (HAll.out _ (mem_nth (by rw [← Hn.out]; omega)))))
                have hps : posB (ltK (easyK l) zeroK) acc k p = if decide (hardL (nth l k) < hardL (nth l q)) = true then posB (ltK (easyK l) zeroK) acc k (p - 1) else p := by
                  obtain ⟨r, rfl⟩ : ∃ r, p = r + 1 := ⟨p - 1, by omega⟩
                  have h := posB_ostep (easyK l) zeroK acc k r
                  rw [show nth acc r = (q : Int) from eq, easy_ltK] at h
                  exact h
                generalize hardL (nth l k) = X at *
                generalize hardL (nth l q) = Y at *
                have k0 := cell_regrown f0
                have k1 := cell_regrown x0
                have k2 := cell_regrown y0
                have hgt : decide (0 < p) = true := decide_eq_true (by omega)
                have hw1 : IntKind.i64.wrap ((p : Int) - 1) = (p : Int) - 1 := IntWalk.i64_in _ (by omega)
                have hqn : q < n := by omega
                clear x0 y0 eq f0 hx1 hy1
                by_cases hXY : X < Y
                · have HP2 : Hid (posB (ltK (easyK l) zeroK) acc k k = posB (ltK (easyK l) zeroK) acc k (p - 1)) := Lib.hid (by rw [HP.out, hps, if_pos (decide_eq_true hXY)])
                  have hd1 : decide (X < Y) = true := decide_eq_true hXY
                  clear hps HP OUT HIns HCut
                  go_wp2
                  refine wp_region_quiet_below (by kernel_rfl) (by kernel_rfl) ?_
                  repeat (first | go_big_quiet_step (first | with_reducible exact Calls.regrown_of (HM1.out _ (below_regrown _ _ _)) | with_reducible exact Calls.regrown_of (HM2.out _ (below_regrown _ _ _))) | quiet_step (first | with_reducible exact Calls.regrown_of (HM1.out _ (below_regrown _ _ _)) | with_reducible exact Calls.regrown_of (HM2.out _ (below_regrown _ _ _))))
                  refine wpQuiet_nil ?_
                  intro _ hw'
                  obtain ⟨⟨dq, osq⟩, hw''⟩ := hw'
                  subst hw''
                  have hbq := below_regrown wr dq osq
                  generalize Go.Sort.grow (redrawn wr dq) osq = wq at *
                  go_wp2
                  exact ⟨⟨p - 1, by go_num, by omega, HP2, bthen hb2 hbq⟩, by simp [intOf]; omega⟩
                · have HP2 : Hid (posB (ltK (easyK l) zeroK) acc k k = p) := Lib.hid (by rw [HP.out, hps, if_neg (by simpa using hXY)])
                  have HE : Hid ((acc.take p ++ [(k : Int)]) ++ acc.drop p = easyO l (k + 1)) := Lib.hid (by rw [← OUT.out HP2.out.symm]; simp)
                  have hd1 : decide (X < Y) = false := decide_eq_false hXY
                  clear hps HP OUT HP2
                  go_wp2
                  refine wp_region_quiet_below (by kernel_rfl) (by kernel_rfl) ?_
                  repeat (first | go_big_quiet_step (first | with_reducible exact Calls.regrown_of (HM1.out _ (below_regrown _ _ _)) | with_reducible exact Calls.regrown_of (HM2.out _ (below_regrown _ _ _))) | quiet_step (first | with_reducible exact Calls.regrown_of (HM1.out _ (below_regrown _ _ _)) | with_reducible exact Calls.regrown_of (HM2.out _ (below_regrown _ _ _))))
                  refine wpQuiet_nil ?_
                  intro _ hw'
                  obtain ⟨⟨dq, osq⟩, hw''⟩ := hw'
                  subst hw''
                  have hbq := below_regrown wr dq osq
                  generalize Go.Sort.grow (redrawn wr dq) osq = wq at *
                  replace HCut : Hid (IntsAt wq (.slice _ p c1) (acc.take p)) := Lib.hid (HCut.out.below hbq)
                  replace hb2 : Below W0.heap.size W0 wq := bthen hb2 hbq
                  clear k0 k1 k2 HM1 HM2 hbq hb5 hbs
                  by_cases hcp : c1 = p
                  · obtain rfl : k = p := by omega
                    have hcp2 := hcp.symm
                    subst hcp2
                    have HE : Hid ((acc.take k ++ [(k : Int)]) ++ ([] : List Int) = easyO l (k + 1)) := Lib.hid (by rw [← HE.out, List.drop_eq_nil_of_le (by rw [← Hlen.out]; exact Nat.le_refl _)])
                    go_wp2_with fail
                    refine (HIns.out _ HCut.out).mono ?_
                    rintro e w5 ⟨a5, n5, c5, rfl, ho5, hb5'⟩
                    have HO5 := Lib.hid ho5
                    clear ho5
                    have hs5 := hb5'.size
                    have hsW := hb2.size
                    have hsw := hb.size
                    have HlR : Hid ((([] : List Int)).length ≤ 10000) := Lib.hid (by have := Hlen.out; simp; try omega)
                    have Hl6 : Hid ((acc.take k).length ≤ 10000) := Lib.hid (by rw [List.length_take, ← Hlen.out]; omega)
                    go_wp2_with (at_builtin; (refine wpList_app_ints rfl _ _ rfl wq.heap.size _ _ rfl (HO5.out.alloc _) _ _ _ [((k : Int))] rfl rfl (ints_new _ _ _) (by have := Hl6.out; simp only [List.length_cons, List.length_nil]; omega) (by simp; omega) ?_))
                    intro a6 n6 c6 w6 ho6 hg6 _ hn6
                    clear hn6
                    have hb6 : Below wq.heap.size wq w6 := (hb5'.alloc (by omega) _).grown hg6 (by simp; omega) (fun g hg => (World.ownsRow.lt HO5.out g hg).1)
                    have HO6 := Lib.hid ho6
                    clear ho6 hg6
                    go_wp2_with (at_builtin; (refine wpList_app_ints rfl _ _ rfl wq.heap.size _ _ rfl HO6.out _ _ _ (([] : List Int)) rfl (by simp) (fun i hi => absurd hi (Nat.not_lt_zero _)) (by have := Hl6.out; have := HlR.out; (repeat rw [List.length_append]); (repeat rw [List.length_cons]); (try rw [List.length_nil]); omega) hb6.size ?_))
                    intro a7 n7 c7 w7 ho7 hg7 _ hn7
                    have hb7 : Below wq.heap.size wq w7 := hb6.grown hg7 hb6.size (fun g hg => (World.ownsRow.lt HO6.out g hg).1)
                    obtain rfl : n7 = k + 1 := by have := Hlen.out; (try simp only [List.length_append, List.length_take, List.length_drop, List.length_cons, List.length_nil] at hn7); omega
                    have HO7 : Hid (OwnInts w7 w.heap.size (.slice a7 (k + 1) c7) (easyO l (k + 1))) := Lib.hid (by have h : OwnInts w7 w.heap.size _ _ := own_monoO ho7 (by omega); have e := HE.out; first | rwa [e] at h | (simp only [List.take_zero, List.nil_append, List.singleton_append] at e; rwa [e] at h) | (simp only [List.append_nil] at e; rwa [e] at h) | (simp only [List.append_assoc, List.singleton_append] at e; rwa [e] at h) | (simp at e; simp at h; rwa [e] at h))
                    clear ho7 hg7 hn7 HO6 HO5 HIns HCut
                    go_wp2
                    exact ⟨⟨k + 1, a7, c7, rfl, by go_num, hlt, HO7, bthen hb (bthen hb2 hb7)⟩, by simp [intOf]; omega⟩
                  · have HX := Lib.hid (ordFrom (HA.out.below hb2) Hlen.out hp hkc hcm)
                    go_wp2_with fail
                    refine (HIns.out _ HCut.out).mono ?_
                    rintro e w5 ⟨a5, n5, c5, rfl, ho5, hb5'⟩
                    have HO5 := Lib.hid ho5
                    clear ho5
                    have hs5 := hb5'.size
                    have hsW := hb2.size
                    have hsw := hb.size
                    have HlR : Hid ((acc.drop p).length ≤ 10000) := Lib.hid (by have := Hlen.out; simp; try omega)
                    have Hl6 : Hid ((acc.take p).length ≤ 10000) := Lib.hid (by rw [List.length_take, ← Hlen.out]; omega)
                    go_wp2_with (at_builtin; (refine wpList_app_ints rfl _ _ rfl wq.heap.size _ _ rfl (HO5.out.alloc _) _ _ _ [((k : Int))] rfl rfl (ints_new _ _ _) (by have := Hl6.out; simp only [List.length_cons, List.length_nil]; omega) (by simp; omega) ?_))
                    intro a6 n6 c6 w6 ho6 hg6 _ hn6
                    clear hn6
                    have hb6 : Below wq.heap.size wq w6 := (hb5'.alloc (by omega) _).grown hg6 (by simp; omega) (fun g hg => (World.ownsRow.lt HO5.out g hg).1)
                    have HO6 := Lib.hid ho6
                    clear ho6 hg6
                    go_wp2_with (at_builtin; (refine wpList_app_ints rfl _ _ rfl wq.heap.size _ _ rfl HO6.out _ _ _ (acc.drop p) rfl (by rw [List.length_drop, ← Hlen.out]) (by have h := HX.out; rw [Option.map_some, oaddr] at h; obtain ⟨_, _, _, e, _, _, _, h⟩ := h; injection e with e1; subst e1; exact h.below hb6) (by have := Hl6.out; have := HlR.out; (repeat rw [List.length_append]); (repeat rw [List.length_cons]); (try rw [List.length_nil]); omega) hb6.size ?_))
                    intro a7 n7 c7 w7 ho7 hg7 _ hn7
                    have hb7 : Below wq.heap.size wq w7 := hb6.grown hg7 hb6.size (fun g hg => (World.ownsRow.lt HO6.out g hg).1)
                    obtain rfl : n7 = k + 1 := by have := Hlen.out; (try simp only [List.length_append, List.length_take, List.length_drop, List.length_cons, List.length_nil] at hn7); omega
                    have HO7 : Hid (OwnInts w7 w.heap.size (.slice a7 (k + 1) c7) (easyO l (k + 1))) := Lib.hid (by have h : OwnInts w7 w.heap.size _ _ := own_monoO ho7 (by omega); have e := HE.out; first | rwa [e] at h | (simp only [List.take_zero, List.nil_append, List.singleton_append] at e; rwa [e] at h) | (simp only [List.append_nil] at e; rwa [e] at h) | (simp only [List.append_assoc, List.singleton_append] at e; rwa [e] at h) | (simp at e; simp at h; rwa [e] at h))
                    clear ho7 hg7 hn7 HO6 HO5 HIns HCut
                    go_wp2
                    exact ⟨⟨k + 1, a7, c7, rfl, by go_num, hlt, HO7, bthen hb (bthen hb2 hb7)⟩, by simp [intOf]; omega⟩
          · obtain rfl : k = n := by omega
            have HR : Hid (OwnInts wr w.heap.size (.slice a1 k c1) (easyR l)) := Lib.hid (by unfold easyR; rw [if_pos HC.out, ← Hn.out]; exact HO.out)
            clear HO
            go_wp2
            go_ret2
            exact GivesIntsC.mk HC.out HR.out hb
end Go.Proofs.Ytpfjmbgkbildjaa
