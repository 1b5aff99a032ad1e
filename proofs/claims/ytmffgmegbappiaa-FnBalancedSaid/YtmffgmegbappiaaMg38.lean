import Derived.Test.YtmffgmegbappiaaMg27
import Derived.Test.YtmffgmegbappiaaMg29
import Derived.Test.YtmffgmegbappiaaMg8
import Derived.Test.YtmffgmegbappiaaMg16
/- NextDue: the first day at which a card is due, by both packages; the law FnExactNextDue. -/
namespace Go.Proofs.Ytmffgmegbappiaa
open Go.ChangeShapes Go.WideShapes Go.ChangeAt Go.RowKit

def nextL (l : List Card) : Int := if okCards l = true then (if l.length = 0 then 0 else dueK l (nth (cardOrder l) 0)) else 0
def nextC (l : List Card) : Int := if okCards l = true then (if l.length = 0 then 3 else 0) else 1
theorem next_least {l : List Card} (h : okCards l = true) (h0 : l.length ≠ 0) {d : Int} (h1 : ∃ j, j < l.length ∧ d = (nth l j).due) (h2 : ∀ j, j < l.length → d ≤ (nth l j).due) : nextL l = d := by
  unfold nextL
  rw [if_pos h, if_neg h0]
  obtain ⟨j, hj, rfl⟩ := h1
  obtain ⟨q, hq, e⟩ := cardOrder_nth l 0 (by omega)
  have a : dueK l (nth (cardOrder l) 0) ≤ dueK l (j : Int) := order_first (dueK l) (lvlK l) l.length j hj
  have b := h2 q hq
  rw [e] at a ⊢
  unfold dueK at *
  simp only [Int.toNat_natCast] at *
  omega
set_option maxHeartbeats 1000000 in
theorem sNextDue_c (v : Value) (l : List Card) (w : World) (hv : CardsAt w v l) : Calls Try.prog 14 #[v] w (Gives (.tuple #[.int .i64 (nextL l), .int .i64 (nextC l)]) w) := by
  have HQ := Lib.hid (l25Ok_c v l w hv)
  obtain ⟨a, n, cap, rfl, hn, hl, hm, hc⟩ := hv
  have Hc := Lib.hid hc; clear hc
  have HLe : Hid (okCards l = true → n ≠ 0 → ∀ d, (∃ j, j < n ∧ d = (nth l j).due) → (∀ j, j < n → d ≤ (nth l j).due) → nextL l = d) := Lib.hid (fun h h0 d h1 h2 => next_least h (by rw [← hn]; exact h0) (by rw [← hn]; exact h1) (by rw [← hn]; exact h2))
  have HC : Hid (nextC l = if okCards l = true then (if n = 0 then 3 else 0) else 1) := Lib.hid (by unfold nextC; rw [hn])
  have HL : Hid (okCards l = false ∨ n = 0 → nextL l = 0) := Lib.hid (fun h => by unfold nextL; rw [← hn]; rcases h with h | h <;> simp [h])
  have Hn := Lib.hid hn; clear hn
  have HLen : Hid (okCards l = true → n ≤ 40) := Lib.hid (fun h => by rw [Hn.out]; exact okCards_len h)
  generalize okCards l = ok at *
  go_enter Try.func14, Try.ntmps14
  go_wp2_with fail
  refine HQ.out.mono ?_
  rintro e w1 ⟨rfl, hb⟩
  clear HQ
  cases ok
  · have H1 := Lib.hid (HL.out (.inl rfl))
    clear HL HLe HLen
    go_wp2
    go_ret2
    exact Gives.ii H1.out HC.out hb
  · have hn40 := HLen.out rfl
    by_cases h0 : n = 0
    · subst h0
      have H1 := Lib.hid (HL.out (.inr rfl))
      clear HL HLe HLen
      go_wp2
      go_ret2
      exact Gives.ii H1.out HC.out hb
    · have HLe' := Lib.hid (HLe.out rfl h0)
      have HC' : Hid (nextC l = 0) := Lib.hid (by rw [HC.out, if_pos rfl, if_neg h0])
      clear HL HLe HLen HC
      obtain ⟨b, o, rfl, hbs, -, -, -, c2⟩ := (Hc.out.below hb) 0 (by rw [← Hn.out]; omega)
      have hne : ((n : Int) == 0) = false := beq_eq_false_iff_ne.2 (by omega)
      have Hx : Hid (∃ j, j < 1 ∧ (nth l 0).due = (nth l j).due) := Lib.hid ⟨0, by omega, rfl⟩
      have Hy : Hid (∀ j, j < 1 → (nth l 0).due ≤ (nth l j).due) := Lib.hid (fun j hj => by
        obtain rfl : j = 0 := by omega
        exact Int.le_refl _)
      generalize (nth l 0).due = x0 at *
      go_wp2
      go_loopw [4, 5] (fun s i wr => ∃ (k : Nat) (d : Int), s = .int .i64 d ∧ i = .int .i64 k ∧ 1 ≤ k ∧ k ≤ n ∧ Hid (∃ j, j < k ∧ d = (nth l j).due) ∧ Hid (∀ j, j < k → d ≤ (nth l j).due) ∧ Below w.heap.size w wr) (fun _ i _ => n - (intOf i).toNat)
      case atStart => exact ⟨1, x0, rfl, rfl, Nat.le_refl _, by omega, Hx, Hy, hb⟩
      case round =>
        clear Hx Hy
        obtain ⟨k, d, rfl, rfl, hk1, hk, HX, HY, hbr⟩ := hrel
        by_cases hlt : k < n
        · obtain ⟨b', o', he, hbs', -, -, -, d2⟩ := (Hc.out.below hbr) k (by rw [← Hn.out]; exact hlt)
          cases he
          have HM := Lib.hid (fun W => l00Min_c d (nth l k).due W)
          have HX2 : Hid (∃ j, j < k + 1 ∧ mn d (nth l k).due = (nth l j).due) := Lib.hid (by
            obtain ⟨j, hj, e⟩ := HX.out
            unfold mn
            split
            · exact ⟨k, by omega, rfl⟩
            · exact ⟨j, by omega, e⟩)
          have HY2 : Hid (∀ j, j < k + 1 → mn d (nth l k).due ≤ (nth l j).due) := Lib.hid (fun j hj => by
            unfold mn
            rcases Nat.lt_succ_iff_lt_or_eq.1 hj with h | rfl
            · have := HY.out j h; split <;> omega
            · split <;> omega)
          clear HX HY
          generalize mn d (nth l k).due = y at *
          generalize (nth l k).due = z at *
          go_wp2_with fail
          refine (HM.out _).mono ?_
          rintro e w3 ⟨rfl, hb3⟩
          go_wp2
          exact ⟨⟨k + 1, y, rfl, by go_num, by omega, hlt, HX2, HY2, bthen hbr hb3⟩, by simp [intOf]; omega⟩
        · obtain rfl : k = n := by omega
          have HR := Lib.hid (HLe'.out d HX.out HY.out)
          clear HX HY
          go_wp2
          go_ret2
          exact Gives.ii HR.out HC'.out hbr
set_option maxHeartbeats 1000000 in
theorem iNextDue_c (v : Value) (l : List Card) (w : World) (hv : CardsAt w v l) : Calls Try.prog 13 #[v] w (Gives (.tuple #[.int .i64 (nextL l), .int .i64 (nextC l)]) w) := by
  have HV := Lib.hid hv
  have HQ := Lib.hid (iValidCards_c v l w hv)
  have HB := Lib.hid (fun W x (h : l.length ≤ 40) => byDue_c v l W x (by omega))
  obtain ⟨a, n, cap, rfl, hn, hl, hm, hc⟩ := hv
  have Hc := Lib.hid hc; clear hc
  have HC : Hid (nextC l = if okCards l = true then (if n = 0 then 3 else 0) else 1) := Lib.hid (by unfold nextC; rw [hn])
  have HL : Hid (nextL l = if okCards l = true then (if n = 0 then 0 else dueK l (nth (cardOrder l) 0)) else 0) := Lib.hid (by unfold nextL; rw [hn])
  have Hn := Lib.hid hn; clear hn
  have HLen : Hid (okCards l = true → n ≤ 40) := Lib.hid (fun h => by rw [Hn.out]; exact okCards_len h)
  generalize okCards l = ok at *
  go_enter Try.func13, Try.ntmps13
  go_wp2_with fail
  refine HQ.out.mono ?_
  rintro e w1 ⟨rfl, hb⟩
  clear HQ
  cases ok
  · have H1 : Hid (nextL l = 0) := Lib.hid HL.out
    clear HL HLen
    go_wp2
    go_ret2
    exact Gives.ii H1.out HC.out hb
  · have hn40 := HLen.out rfl
    by_cases h0 : n = 0
    · subst h0
      have H1 : Hid (nextL l = 0) := Lib.hid HL.out
      clear HL HLen
      go_wp2
      go_ret2
      exact Gives.ii H1.out HC.out hb
    · have HC' : Hid (nextC l = 0) := Lib.hid (by rw [HC.out, if_pos rfl, if_neg h0])
      have HL' : Hid (nextL l = dueK l (nth (cardOrder l) 0)) := Lib.hid (by rw [HL.out, if_pos rfl, if_neg h0])
      obtain ⟨q, hq, e'⟩ := cardOrder_nth l 0 (by rw [← Hn.out]; omega)
      rw [← Hn.out] at hq
      have hne : ((n : Int) == 0) = false := beq_eq_false_iff_ne.2 (by omega)
      have HV1 := Lib.hid (HV.out.below hb)
      rw [e'] at HL'
      have HE := Lib.hid e'
      clear HL HLen HC e' HV
      go_wp2_with fail
      refine (HB.out _ HV1.out (by rw [← Hn.out]; exact hn40)).mono ?_
      rintro e w2 ⟨a2, n2, c2, rfl, ho2, hn2, hb2⟩
      obtain rfl : n2 = n := by rw [hn2, Hn.out]
      have hoc := kown_c ho2 (hn2.trans (cardOrder_len l).symm)
      obtain ⟨b3, o3, rfl, hb3, d0⟩ := hoc 0 (by rw [cardOrder_len, ← hn2]; omega)
      rw [HE.out] at d0
      clear hoc ho2 hn2 HB
      have hbb := bthen hb hb2
      obtain ⟨b, o, rfl, hbs, -, -, -, x2⟩ := (Hc.out.below hbb) q (by rw [← Hn.out]; exact hq)
      have HR : Hid (nextL l = (nth l q).due) := Lib.hid (by rw [HL'.out]; unfold dueK; rw [Int.toNat_natCast])
      clear HL'
      generalize (nth l q).due = y at *
      have h0n : 0 < n2 := by omega
      rw [Nat.add_zero] at d0
      go_wp2
      go_ret2
      exact Gives.ii HR.out HC'.out hbb
end Go.Proofs.Ytmffgmegbappiaa
