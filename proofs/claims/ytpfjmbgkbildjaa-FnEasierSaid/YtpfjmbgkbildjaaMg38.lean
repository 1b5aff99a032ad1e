import Derived.Test.YtpfjmbgkbildjaaMg37
import Derived.Test.YtpfjmbgkbildjaaMg24
/- Easy: the exchange of two throws that makes a pattern easiest, by both packages; the law FnExactEasiestSwap. -/
namespace Go.Proofs.Ytpfjmbgkbildjaa
open Go.ChangeShapes Go.WideShapes Go.ChangeAt Go.RowKit

def oA (d : Int) : Option (Nat × Nat) → Int
  | none => d
  | some p => (p.1 : Int)
def oB (d : Int) : Option (Nat × Nat) → Int
  | none => d
  | some p => (p.2 : Int)
def swStep (l : List Int) (i : Nat) (st : Option (Nat × Nat) × Int) (k : Nat) : Option (Nat × Nat) × Int :=
  if throwsB (swapL l i k) && decide (hardL (swapL l i k) < st.2) then (some (i, k), hardL (swapL l i k)) else st
def swIn (l : List Int) (i : Nat) (st : Option (Nat × Nat) × Int) (k : Nat) : Option (Nat × Nat) × Int := (List.range' k (l.length - k)).foldl (swStep l i) st
def swOut (l : List Int) (st : Option (Nat × Nat) × Int) (i : Nat) : Option (Nat × Nat) × Int := (List.range' i (l.length - i)).foldl (fun st i => swIn l i st (i + 1)) st
def swAll (l : List Int) : Option (Nat × Nat) × Int := swOut l (none, hardL l) 0
theorem swIn_step (l : List Int) (i k : Nat) (st : Option (Nat × Nat) × Int) (h : k < l.length) : swIn l i st k = swIn l i (swStep l i st k) (k + 1) := foldl_range'_step _ _ _ _ h
theorem swIn_end (l : List Int) (i k : Nat) (st : Option (Nat × Nat) × Int) (h : l.length ≤ k) : swIn l i st k = st := foldl_range'_end _ _ _ _ h
theorem swOut_step (l : List Int) (i : Nat) (st : Option (Nat × Nat) × Int) (h : i < l.length) : swOut l st i = swOut l (swIn l i st (i + 1)) (i + 1) := foldl_range'_step (fun st i => swIn l i st (i + 1)) _ _ _ h
theorem swOut_end (l : List Int) (i : Nat) (st : Option (Nat × Nat) × Int) (h : l.length ≤ i) : swOut l st i = st := foldl_range'_end _ _ _ _ h
def Fine (H : Int) (o : Option (Nat × Nat)) (best : Int) : Prop := (o = none ∧ best = H) ∨ ((∃ p, o = some p) ∧ best < H)
theorem Fine.more {H : Int} {o : Option (Nat × Nat)} {best : Int} (h : Fine H o best) {p : Nat × Nat} {b : Int} (hb : b < best) : Fine H (some p) b := by
  rcases h with ⟨_, h⟩ | ⟨_, h⟩
  · exact .inr ⟨⟨p, rfl⟩, by omega⟩
  · exact .inr ⟨⟨p, rfl⟩, by omega⟩
def ezA (l : List Int) : Int := if okPat l then oA 0 (swAll l).1 else 0
def ezB (l : List Int) : Int := if okPat l then oB 0 (swAll l).1 else 0
def ezC (l : List Int) : Int := if okPat l then (match (swAll l).1 with | none => 3 | some _ => 0) else 1
theorem Gives.iii {a1 a2 a3 b1 b2 b3 : Int} {w w' : World} (h1 : a1 = b1) (h2 : a2 = b2) (h3 : a3 = b3) (hb : Below w.heap.size w w') : Gives (.tuple #[.int .i64 a1, .int .i64 a2, .int .i64 a3]) w (.returned (.tuple #[.int .i64 b1, .int .i64 b2, .int .i64 b3])) w' := ⟨by rw [h1, h2, h3], hb⟩

set_option maxHeartbeats 4000000 in
theorem sEasiest_c (v : Value) (l : List Int) (w : World) (hv : IntsAt w v l) : Calls Try.prog 34 #[v] w (Gives (.tuple #[.int .i64 (ezA l), .int .i64 (ezB l), .int .i64 (ezC l)]) w) := by
  have hq := l02Ok_c v l w hv
  have HPn : Hid (∀ W, IntsAt W v l → Calls Try.prog 64 #[v] W (Gives (.int .i64 l.length) W)) := Lib.hid (fun W x => period_c v l W x)
  cases hE : okPat l
  · rw [hE] at hq
    have HA : Hid (ezA l = 0) := Lib.hid (by unfold ezA; rw [hE]; rfl)
    have HB : Hid (ezB l = 0) := Lib.hid (by unfold ezB; rw [hE]; rfl)
    have HC : Hid (ezC l = 1) := Lib.hid (by unfold ezC; rw [hE]; rfl)
    clear hE hv HPn
    go_enter Try.func34, Try.ntmps34
    go_wp2_with fail
    refine hq.mono ?_
    rintro e w1 ⟨rfl, hb1⟩
    go_wp2
    go_ret3
    exact Gives.iii HA.out HB.out HC.out hb1
  · rw [hE] at hq
    have HA : Hid (ezA l = oA 0 (swAll l).1) := Lib.hid (by unfold ezA; rw [hE]; rfl)
    have HB : Hid (ezB l = oB 0 (swAll l).1) := Lib.hid (by unfold ezB; rw [hE]; rfl)
    have HC : Hid (ezC l = match (swAll l).1 with | none => 3 | some _ => 0) := Lib.hid (by unfold ezC; rw [hE]; rfl)
    have ht := okPat_throws hE
    have Hok := Lib.hid hE
    have h12 := (throwsB_nth ht).2.2
    have HH := Lib.hid (fun W x => l20Hard_c v l W x ht)
    have HV := Lib.hid hv
    have HS0 := Lib.hid (show swAll l = swOut l (none, hardL l) 0 from rfl)
    generalize hardL l = H at *
    generalize swAll l = F at *
    obtain ⟨a0, n, cap, rfl, hn, -, -, -⟩ := hv
    have hn12 : n ≤ 12 := by omega
    have Hn := Lib.hid hn
    rw [← hn] at HPn
    clear hE hn h12 ht
    go_enter Try.func34, Try.ntmps34
    go_wp2_with fail
    refine hq.mono ?_
    rintro e w1 ⟨rfl, hb1⟩
    clear hq
    go_wp2_with fail
    refine (HH.out _ (HV.out.below hb1)).mono ?_
    rintro e w2 ⟨rfl, hb2'⟩
    have hb2 := bthen hb1 hb2'
    go_wp2
    go_loopw [6, 7, 8, 9] (fun a b best ii wr => ∃ (i : Nat) (o : Option (Nat × Nat)) (B : Int), ii = .int .i64 i ∧ a = .int .i64 (oA (-1) o) ∧ b = .int .i64 (oB (-1) o) ∧ best = .int .i64 B ∧ i ≤ n ∧ Hid (F = swOut l (o, B) i) ∧ Hid (Fine H o B) ∧ Below w.heap.size w wr) (fun _ _ _ ii _ => n - (intOf ii).toNat)
    case atStart => exact ⟨0, none, H, rfl, rfl, rfl, rfl, Nat.zero_le _, HS0, Lib.hid (.inl ⟨rfl, rfl⟩), by assumption⟩
    case round =>
      obtain ⟨i, o, B, rfl, rfl, rfl, rfl, hi, HS, HF, hb⟩ := hrel
      by_cases hin : i < n
      · have HS2 : Hid (F = swOut l (swIn l i (o, B) (i + 1)) (i + 1)) := Lib.hid (by rw [HS.out, swOut_step l i _ (by rw [← Hn.out]; exact hin)])
        have hwi : IntKind.i64.wrap ((i : Int) + 1) = (i : Int) + 1 := IntWalk.i64_in _ (by omega)
        clear HS HS0
        go_wp2
        go_loopw [6, 7, 8, 10] (fun a b best kk wr => ∃ (k : Nat) (o : Option (Nat × Nat)) (B : Int), kk = .int .i64 k ∧ a = .int .i64 (oA (-1) o) ∧ b = .int .i64 (oB (-1) o) ∧ best = .int .i64 B ∧ i < k ∧ k ≤ n ∧ Hid (F = swOut l (swIn l i (o, B) k) (i + 1)) ∧ Hid (Fine H o B) ∧ Below w.heap.size w wr) (fun _ _ _ kk _ => n - (intOf kk).toNat)
        case atStart => exact ⟨i + 1, o, B, by go_num, rfl, rfl, rfl, by omega, by omega, HS2, HF, hb⟩
        case round =>
          clear HF HS2 hb
          obtain ⟨k, o, B, rfl, rfl, rfl, rfl, hik, hkn, HS, HF, hb⟩ := hrel
          by_cases hk : k < n
          · have hwk : IntKind.i64.wrap ((k : Int) + 1) = (k : Int) + 1 := IntWalk.i64_in _ (by omega)
            have HSt := Lib.hid (HS.out.trans (congrArg (fun s => swOut l s (i + 1)) (swIn_step l i k (o, B) (by rw [← Hn.out]; exact hk))))
            clear HS
            skip
            have hsw := sSwap_c _ l i k _ (HV.out.below hb) Hok.out hik (by rw [← Hn.out]; exact hk)
            cases hE : throwsB (swapL l i k)
            · rw [show swapC l i k = 2 by unfold swapC; rw [hE]; rfl, show swapR l i k = [] by unfold swapR; rw [hE]; rfl] at hsw
              have HU : Hid (F = swOut l (swIn l i (o, B) (k + 1)) (i + 1)) := Lib.hid (by rw [HSt.out]; unfold swStep; rw [hE]; rfl)
              clear hE HSt
              go_wp2_with fail
              refine hsw.mono ?_
              rintro e w4 ⟨a4, n4, c4, rfl, -, hb4⟩
              clear hsw
              go_wp2
              exact ⟨⟨k + 1, o, B, by go_num, rfl, rfl, rfl, by omega, hk, HU, HF, bthen hb hb4⟩, by simp [intOf]; omega⟩
            · rw [show swapC l i k = 0 by unfold swapC; rw [hE]; rfl, show swapR l i k = swapL l i k by unfold swapR; rw [hE]; rfl] at hsw
              have HD := Lib.hid (fun W v x => l20Hard_c v (swapL l i k) W x hE)
              have HStep := Lib.hid (show swStep l i (o, B) k = if hardL (swapL l i k) < B then (some (i, k), hardL (swapL l i k)) else (o, B) by unfold swStep; rw [hE]; simp)
              clear hE
              generalize hardL (swapL l i k) = h at *
              by_cases hlt : h < B
              · have HU : Hid (F = swOut l (swIn l i (some (i, k), h) (k + 1)) (i + 1)) := Lib.hid (by rw [HSt.out, HStep.out, if_pos hlt])
                have HF2 : Hid (Fine H (some (i, k)) h) := Lib.hid (HF.out.more hlt)
                clear HSt HStep HF
                go_wp2_with fail
                refine hsw.mono ?_
                rintro e w4 ⟨a4, n4, c4, rfl, ho, hb4⟩
                have HX := Lib.hid (OwnInts.at ho)
                clear hsw ho
                go_wp2_with fail
                refine (HD.out _ _ HX.out).mono ?_
                rintro e w5 ⟨rfl, hb5⟩
                go_wp2_with fail
                refine (HD.out _ _ (HX.out.below hb5)).mono ?_
                rintro e w6 ⟨rfl, hb6⟩
                go_wp2
                exact ⟨⟨k + 1, some (i, k), h, by go_num, rfl, rfl, rfl, by omega, hk, HU, HF2, bthen (bthen (bthen hb hb4) hb5) hb6⟩, by simp [intOf]; omega⟩
              · have HU : Hid (F = swOut l (swIn l i (o, B) (k + 1)) (i + 1)) := Lib.hid (by rw [HSt.out, HStep.out, if_neg hlt])
                clear HSt HStep
                go_wp2_with fail
                refine hsw.mono ?_
                rintro e w4 ⟨a4, n4, c4, rfl, ho, hb4⟩
                have HX := Lib.hid (OwnInts.at ho)
                clear hsw ho
                go_wp2_with fail
                refine (HD.out _ _ HX.out).mono ?_
                rintro e w5 ⟨rfl, hb5⟩
                go_wp2
                exact ⟨⟨k + 1, o, B, by go_num, rfl, rfl, rfl, by omega, hk, HU, HF, bthen (bthen hb hb4) hb5⟩, by simp [intOf]; omega⟩
          · obtain rfl : k = n := by omega
            have HU : Hid (F = swOut l (o, B) (i + 1)) := Lib.hid (by rw [HS.out, swIn_end l i k _ (by rw [← Hn.out]; exact Nat.le_refl _)])
            clear HS
            skip
            go_wp2
            exact ⟨⟨i + 1, o, B, by go_num, rfl, rfl, rfl, hin, HU, HF, hb⟩, by simp [intOf]; omega⟩
      · obtain rfl : i = n := by omega
        have HU : Hid (F = (o, B)) := Lib.hid (by rw [HS.out, swOut_end l i _ (by rw [← Hn.out]; exact Nat.le_refl _)])
        clear HS
        rcases HF.out with ⟨rfl, rfl⟩ | ⟨⟨⟨pi, pk⟩, rfl⟩, hBH⟩
        · have HA2 : Hid (ezA l = 0) := Lib.hid (by rw [HA.out, HU.out]; rfl)
          have HB2 : Hid (ezB l = 0) := Lib.hid (by rw [HB.out, HU.out]; rfl)
          have HC2 : Hid (ezC l = 3) := Lib.hid (by rw [HC.out, HU.out])
          have ea : oA (-1) none = -1 := rfl
          have eb : oB (-1) none = -1 := rfl
          clear HF
          go_wp2
          go_ret3
          exact Gives.iii HA2.out HB2.out HC2.out hb
        · have HA2 : Hid (ezA l = (pi : Int)) := Lib.hid (by rw [HA.out, HU.out]; rfl)
          have HB2 : Hid (ezB l = (pk : Int)) := Lib.hid (by rw [HB.out, HU.out]; rfl)
          have HC2 : Hid (ezC l = 0) := Lib.hid (by rw [HC.out, HU.out])
          have ea : oA (-1) (some (pi, pk)) = (pi : Int) := rfl
          have eb : oB (-1) (some (pi, pk)) = (pk : Int) := rfl
          have hne : (B == H) = false := beq_eq_false_iff_ne.2 (by omega)
          clear HF
          go_wp2
          go_ret3
          exact Gives.iii HA2.out HB2.out HC2.out hb
set_option maxHeartbeats 4000000 in
theorem iEasiest_c (v : Value) (l : List Int) (w : World) (hv : IntsAt w v l) : Calls Try.prog 33 #[v] w (Gives (.tuple #[.int .i64 (ezA l), .int .i64 (ezB l), .int .i64 (ezC l)]) w) := by
  have hq := validPattern_c v l w hv
  have HPn : Hid (∀ W, IntsAt W v l → Calls Try.prog 64 #[v] W (Gives (.int .i64 l.length) W)) := Lib.hid (fun W x => period_c v l W x)
  cases hE : okPat l
  · rw [hE] at hq
    have HA : Hid (ezA l = 0) := Lib.hid (by unfold ezA; rw [hE]; rfl)
    have HB : Hid (ezB l = 0) := Lib.hid (by unfold ezB; rw [hE]; rfl)
    have HC : Hid (ezC l = 1) := Lib.hid (by unfold ezC; rw [hE]; rfl)
    clear hE hv HPn
    go_enter Try.func33, Try.ntmps33
    go_wp2_with fail
    refine hq.mono ?_
    rintro e w1 ⟨rfl, hb1⟩
    go_wp2
    go_ret3
    exact Gives.iii HA.out HB.out HC.out hb1
  · rw [hE] at hq
    have HA : Hid (ezA l = oA 0 (swAll l).1) := Lib.hid (by unfold ezA; rw [hE]; rfl)
    have HB : Hid (ezB l = oB 0 (swAll l).1) := Lib.hid (by unfold ezB; rw [hE]; rfl)
    have HC : Hid (ezC l = match (swAll l).1 with | none => 3 | some _ => 0) := Lib.hid (by unfold ezC; rw [hE]; rfl)
    have ht := okPat_throws hE
    have Hok := Lib.hid hE
    have h12 := (throwsB_nth ht).2.2
    have HH := Lib.hid (fun W x => difficulty_c v l W x ht)
    have HV := Lib.hid hv
    have HS0 := Lib.hid (show swAll l = swOut l (none, hardL l) 0 from rfl)
    generalize hardL l = H at *
    generalize swAll l = F at *
    obtain ⟨a0, n, cap, rfl, hn, -, -, -⟩ := hv
    have hn12 : n ≤ 12 := by omega
    have Hn := Lib.hid hn
    rw [← hn] at HPn
    clear hE hn h12 ht
    go_enter Try.func33, Try.ntmps33
    go_wp2_with fail
    refine hq.mono ?_
    rintro e w1 ⟨rfl, hb1⟩
    clear hq
    go_wp2_with fail
    refine (HH.out _ (HV.out.below hb1)).mono ?_
    rintro e w2 ⟨rfl, hb2'⟩
    have hb2 := bthen hb1 hb2'
    go_wp2_with fail
    refine (HPn.out _ (HV.out.below hb2)).mono ?_
    rintro e w3 ⟨rfl, hb3'⟩
    have hb3 := bthen hb2 hb3'
    go_wp2
    go_loopw [5, 6, 7, 19] (fun a b best ii wr => ∃ (i : Nat) (o : Option (Nat × Nat)) (B : Int), ii = .int .i64 i ∧ a = .int .i64 (oA (0) o) ∧ b = .int .i64 (oB (0) o) ∧ best = .int .i64 B ∧ i ≤ n ∧ Hid (F = swOut l (o, B) i) ∧ Hid (Fine H o B) ∧ Below w.heap.size w wr) (fun _ _ _ ii _ => n - (intOf ii).toNat)
    case atStart => exact ⟨0, none, H, rfl, rfl, rfl, rfl, Nat.zero_le _, HS0, Lib.hid (.inl ⟨rfl, rfl⟩), by assumption⟩
    case round =>
      obtain ⟨i, o, B, rfl, rfl, rfl, rfl, hi, HS, HF, hb⟩ := hrel
      by_cases hin : i < n
      · have HS2 : Hid (F = swOut l (swIn l i (o, B) (i + 1)) (i + 1)) := Lib.hid (by rw [HS.out, swOut_step l i _ (by rw [← Hn.out]; exact hin)])
        have hwi : IntKind.i64.wrap ((i : Int) + 1) = (i : Int) + 1 := IntWalk.i64_in _ (by omega)
        clear HS HS0
        go_wp2
        go_loopw [5, 6, 7, 9] (fun a b best kk wr => ∃ (k : Nat) (o : Option (Nat × Nat)) (B : Int), kk = .int .i64 k ∧ a = .int .i64 (oA (0) o) ∧ b = .int .i64 (oB (0) o) ∧ best = .int .i64 B ∧ i < k ∧ k ≤ n ∧ Hid (F = swOut l (swIn l i (o, B) k) (i + 1)) ∧ Hid (Fine H o B) ∧ Below w.heap.size w wr) (fun _ _ _ kk _ => n - (intOf kk).toNat)
        case atStart => exact ⟨i + 1, o, B, by go_num, rfl, rfl, rfl, by omega, by omega, HS2, HF, hb⟩
        case round =>
          clear HF HS2 hb
          obtain ⟨k, o, B, rfl, rfl, rfl, rfl, hik, hkn, HS, HF, hb⟩ := hrel
          by_cases hk : k < n
          · have hwk : IntKind.i64.wrap ((k : Int) + 1) = (k : Int) + 1 := IntWalk.i64_in _ (by omega)
            have HSt := Lib.hid (HS.out.trans (congrArg (fun s => swOut l s (i + 1)) (swIn_step l i k (o, B) (by rw [← Hn.out]; exact hk))))
            clear HS
            go_wp2_with fail
            refine (HPn.out _ (HV.out.below hb)).mono ?_
            rintro e w9 ⟨rfl, hb9⟩
            replace hb := bthen hb hb9
            have hsw := iSwap_c _ l i k _ (HV.out.below hb) Hok.out hik (by rw [← Hn.out]; exact hk)
            cases hE : throwsB (swapL l i k)
            · rw [show swapC l i k = 2 by unfold swapC; rw [hE]; rfl, show swapR l i k = [] by unfold swapR; rw [hE]; rfl] at hsw
              have HU : Hid (F = swOut l (swIn l i (o, B) (k + 1)) (i + 1)) := Lib.hid (by rw [HSt.out]; unfold swStep; rw [hE]; rfl)
              clear hE HSt
              go_wp2_with fail
              refine hsw.mono ?_
              rintro e w4 ⟨a4, n4, c4, rfl, -, hb4⟩
              clear hsw
              go_wp2
              exact ⟨⟨k + 1, o, B, by go_num, rfl, rfl, rfl, by omega, hk, HU, HF, bthen hb hb4⟩, by simp [intOf]; omega⟩
            · rw [show swapC l i k = 0 by unfold swapC; rw [hE]; rfl, show swapR l i k = swapL l i k by unfold swapR; rw [hE]; rfl] at hsw
              have HD := Lib.hid (fun W v x => difficulty_c v (swapL l i k) W x hE)
              have HStep := Lib.hid (show swStep l i (o, B) k = if hardL (swapL l i k) < B then (some (i, k), hardL (swapL l i k)) else (o, B) by unfold swStep; rw [hE]; simp)
              clear hE
              generalize hardL (swapL l i k) = h at *
              by_cases hlt : h < B
              · have HU : Hid (F = swOut l (swIn l i (some (i, k), h) (k + 1)) (i + 1)) := Lib.hid (by rw [HSt.out, HStep.out, if_pos hlt])
                have HF2 : Hid (Fine H (some (i, k)) h) := Lib.hid (HF.out.more hlt)
                clear HSt HStep HF
                go_wp2_with fail
                refine hsw.mono ?_
                rintro e w4 ⟨a4, n4, c4, rfl, ho, hb4⟩
                have HX := Lib.hid (OwnInts.at ho)
                clear hsw ho
                go_wp2_with fail
                refine (HD.out _ _ HX.out).mono ?_
                rintro e w5 ⟨rfl, hb5⟩
                go_wp2_with fail
                refine (HD.out _ _ (HX.out.below hb5)).mono ?_
                rintro e w6 ⟨rfl, hb6⟩
                go_wp2
                exact ⟨⟨k + 1, some (i, k), h, by go_num, rfl, rfl, rfl, by omega, hk, HU, HF2, bthen (bthen (bthen hb hb4) hb5) hb6⟩, by simp [intOf]; omega⟩
              · have HU : Hid (F = swOut l (swIn l i (o, B) (k + 1)) (i + 1)) := Lib.hid (by rw [HSt.out, HStep.out, if_neg hlt])
                clear HSt HStep
                go_wp2_with fail
                refine hsw.mono ?_
                rintro e w4 ⟨a4, n4, c4, rfl, ho, hb4⟩
                have HX := Lib.hid (OwnInts.at ho)
                clear hsw ho
                go_wp2_with fail
                refine (HD.out _ _ HX.out).mono ?_
                rintro e w5 ⟨rfl, hb5⟩
                go_wp2
                exact ⟨⟨k + 1, o, B, by go_num, rfl, rfl, rfl, by omega, hk, HU, HF, bthen (bthen hb hb4) hb5⟩, by simp [intOf]; omega⟩
          · obtain rfl : k = n := by omega
            have HU : Hid (F = swOut l (o, B) (i + 1)) := Lib.hid (by rw [HS.out, swIn_end l i k _ (by rw [← Hn.out]; exact Nat.le_refl _)])
            clear HS
            go_wp2_with fail
            refine (HPn.out _ (HV.out.below hb)).mono ?_
            rintro e w9 ⟨rfl, hb9⟩
            replace hb := bthen hb hb9
            go_wp2
            exact ⟨⟨i + 1, o, B, by go_num, rfl, rfl, rfl, hin, HU, HF, hb⟩, by simp [intOf]; omega⟩
      · obtain rfl : i = n := by omega
        have HU : Hid (F = (o, B)) := Lib.hid (by rw [HS.out, swOut_end l i _ (by rw [← Hn.out]; exact Nat.le_refl _)])
        clear HS
        rcases HF.out with ⟨rfl, rfl⟩ | ⟨⟨⟨pi, pk⟩, rfl⟩, hBH⟩
        · have HA2 : Hid (ezA l = 0) := Lib.hid (by rw [HA.out, HU.out]; rfl)
          have HB2 : Hid (ezB l = 0) := Lib.hid (by rw [HB.out, HU.out]; rfl)
          have HC2 : Hid (ezC l = 3) := Lib.hid (by rw [HC.out, HU.out])
          have ea : oA (0) none = 0 := rfl
          have eb : oB (0) none = 0 := rfl
          clear HF
          go_wp2_with fail
          refine (HH.out _ (HV.out.below hb)).mono ?_
          rintro e w9 ⟨rfl, hb9⟩
          go_wp2
          go_ret3
          exact Gives.iii HA2.out HB2.out HC2.out (bthen hb hb9)
        · have HA2 : Hid (ezA l = (pi : Int)) := Lib.hid (by rw [HA.out, HU.out]; rfl)
          have HB2 : Hid (ezB l = (pk : Int)) := Lib.hid (by rw [HB.out, HU.out]; rfl)
          have HC2 : Hid (ezC l = 0) := Lib.hid (by rw [HC.out, HU.out])
          have ea : oA (0) (some (pi, pk)) = (pi : Int) := rfl
          have eb : oB (0) (some (pi, pk)) = (pk : Int) := rfl
          have hne : (B == H) = false := beq_eq_false_iff_ne.2 (by omega)
          clear HF
          go_wp2_with fail
          refine (HH.out _ (HV.out.below hb)).mono ?_
          rintro e w9 ⟨rfl, hb9⟩
          go_wp2
          go_ret3
          exact Gives.iii HA2.out HB2.out HC2.out (bthen hb hb9)
end Go.Proofs.Ytpfjmbgkbildjaa
