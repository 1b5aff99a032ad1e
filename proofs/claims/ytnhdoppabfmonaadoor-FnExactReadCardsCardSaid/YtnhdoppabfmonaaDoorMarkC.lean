/- MarkC: cards that the law marks, and their marks held. -/
import Derived.Test.YtnhdoppabfmonaaDoorLawCards
import Derived.Test.YtnhdoppabfmonaaDoorMarkT
namespace Go.Proofs.YtnhdoppabfmonaaDoor
open Go.ChangeShapes Go.WideShapes Go.ChangeAt Go.RowKit

def cardsM (l : List Card) : Nat := 3 * l.length
def cardMark (k : Nat) : Card := ⟨markB k, ((k + 1 : Nat) : Int), ((k + 2 : Nat) : Int)⟩
def cardMarks (n k : Nat) : List Card := (List.range n).map fun i => cardMark (k + 3 * i)
theorem cardMarks_len (n k : Nat) : (cardMarks n k).length = n := by simp [cardMarks]
def InCards (w : World) (lo hi : Nat) (v : Value) (l : List Card) : Prop := RowIn 59 3 w lo hi v l.length (l.flatMap cardCells) ∧ ∀ c ∈ l, c.name.size ≤ 9223372036854775807
section
variable {w w' : World} {lo hi : Nat} {v : Value} {l : List Card}
theorem InCards.of (h : OwnCards w lo v l) : InCards w lo w.heap.size v l := ⟨RowIn.of h.1, h.2⟩
theorem InCards.below (h : InCards w lo hi v l) (hb : Below w.heap.size w w') : InCards w' lo hi v l := ⟨RowIn.below h.1 hb, h.2⟩
theorem InCards.turned {lo' hi' : Nat} (h : InCards w lo hi v l) (ht : Turned lo' hi' w w') (hd : hi ≤ lo' ∨ hi' ≤ lo) : InCards w' lo hi v l := ⟨RowIn.turned h.1 ht hd, h.2⟩
theorem InCards.at (h : InCards w lo hi v l) : CardsAt w v l := OwnCards.at ⟨h.1.1, h.2⟩
end
theorem cardMarks_nth {n k j q : Nat} (h : j < n) (hq : q = k + 3 * j) : nth (cardMarks n k) j = cardMark q := by
  unfold cardMarks; rw [nth_range_map _ _ _ h, hq]
set_option maxHeartbeats 2000000 in
theorem markCardS_c (v : Value) (l : List Card) (k lo hi : Nat) (w : World) (hv : InCards w lo hi v l) (hl : l.length ≤ 1099511627776) (hk1 : 1 ≤ k) (hk : k ≤ 281474976710656) (hhi : hi ≤ w.heap.size) :
    Calls Tryd.prog 16 #[v, .int .i64 k] w fun e w' => ∃ m : Nat, e = .returned (.int .i64 m) ∧ m = k + cardsM l ∧ m ≤ k + 4398046511104 ∧ InCards w' lo hi v (cardMarks l.length k) ∧ Turned lo hi w w' := by
  obtain ⟨a, c, rfl⟩ := slice_of_own hv.1.1
  have HV := Lib.hid hv; clear hv
  generalize hn : l.length = n at *
  have Hn := Lib.hid hn; clear hn
  go_enter Tryd.func16, Tryd.ntmps16
  go_wp2
  go_loopw [1, 5] (fun s i wr => ∃ (j q : Nat) (xs : List Value), i = .int .i64 j ∧ s = .int .i64 q ∧ q ≤ k + 3 * j ∧ k ≤ q ∧ j ≤ n ∧ Hid (q = k + 3 * j) ∧ Hid (RowIn 59 3 wr lo hi (.slice a n c) n xs) ∧ Hid (∀ i, i < j → ∀ t, t < 3 → xs[i * 3 + t]? = (cardCells (nth (cardMarks n k) i))[t]?) ∧ Hid (hi ≤ wr.heap.size) ∧ Hid (Turned lo hi w wr)) (fun _ i _ => n - (intOf i).toNat)
  case atStart => exact ⟨0, k, _, rfl, rfl, by omega, Nat.le_refl _, Nat.zero_le _, Lib.hid rfl, Lib.hid (by have := HV.out.1; rw [Hn.out] at this; exact this), Lib.hid fun i hi => absurd hi (Nat.not_lt_zero _), Lib.hid hhi, Lib.hid (Turned.refl _)⟩
  case round =>
    obtain ⟨j, q, xs, rfl, rfl, hq1, hq2, hj, HQ, HO, HX, HH, HT⟩ := hrel
    by_cases hlt : j < n
    · obtain ⟨g, cap, he, hg1, hg2⟩ := HO.out.1.form (by omega)
      cases he
      have hghi := HO.out.2 g rfl
      have HM : Hid (cardCells (nth (cardMarks n k) j) = [.string (markB q), .int .i64 ((q : Int) + 1), .int .i64 ((q : Int) + 1 + 1)]) := Lib.hid (by
        rw [cardMarks_nth hlt HQ.out]; simp only [cardCells, cardMark]; congr 3 <;> simp <;> omega)
      have HC := Lib.hid (fun W => markText_c q W (by omega) (by omega))
      go_wp2_with fail
      refine (HC.out _).mono ?_
      rintro e w2 ⟨rfl, hb2⟩
      have HO2 := Lib.hid (RowIn.below HO.out hb2)
      have HT2 := Lib.hid (HT.out.then_below hb2)
      have HH2 := Lib.hid (Nat.le_trans HH.out hb2.size)
      have ho2 := HO2.out.1
      have hlen := ho2.1
      have e0 := (ho2.cellAt (j * 3) (by omega)).trans (List.getElem?_eq_getElem (by omega))
      have e1 := (ho2.cellAt (j * 3 + 1) (by omega)).trans (List.getElem?_eq_getElem (by omega))
      have e2 := (ho2.cellAt (j * 3 + 2) (by omega)).trans (List.getElem?_eq_getElem (by omega))
      have f0 := ho2.frozenAt (j * 3)
      have f1 := ho2.frozenAt (j * 3 + 1)
      have f2 := ho2.frozenAt (j * 3 + 2)
      generalize xs[j * 3] = y0 at e0
      generalize xs[j * 3 + 1] = y1 at e1
      generalize xs[j * 3 + 2] = y2 at e2
      clear ho2 HO HT HH
      have Hlen := Lib.hid hlen; clear hlen
      go_wp2
      exact ⟨⟨j + 1, q + 3, _, by go_num, by go_num, by omega, by omega, hlt, Lib.hid (by have := HQ.out; omega), Lib.hid ⟨own_store3 HO2.out.1 (j * 3) _ _ _, HO2.out.2⟩, Lib.hid (fill3 HX.out HM.out (by rw [Hlen.out]; omega)), Lib.hid (by simp only [World.size_setCell]; exact HH2.out), Lib.hid (((HT2.out.set hg1 hghi _).set hg1 hghi _).set hg1 hghi _)⟩, by simp [intOf]; omega⟩
    · obtain rfl : j = n := by omega
      have hfin : xs = (cardMarks j k).flatMap cardCells := flat_ext cardCells 3 cardCells_len _ xs (by rw [cardMarks_len]; exact HO.out.1.1) (fun i hi t ht => HX.out i (by rwa [cardMarks_len] at hi) t ht)
      have HO3 : Hid (InCards wr lo hi (.slice a j c) (cardMarks j k)) := Lib.hid ⟨by rw [cardMarks_len, ← hfin]; exact HO.out, by
        intro c hc
        obtain ⟨i, hi, rfl⟩ := List.mem_map.1 hc
        exact markB_size _ (by have := List.mem_range.1 hi; omega)⟩
      clear HO HX hfin
      go_wp2
      go_ret
      exact ⟨q, rfl, by unfold cardsM; rw [Hn.out]; exact HQ.out, by omega, HO3.out, HT.out⟩

set_option maxHeartbeats 2000000 in
theorem heldCardS_c (v : Value) (l : List Card) (w : World) (hv : CardsAt w v (cardMarks l.length 1)) (hl : l.length ≤ 1099511627776) (m : Nat) (hm' : m = 1 + cardsM l) :
    Calls Tryd.prog 17 #[v, .int .i64 1] w (Gives (.int .i64 m) w) := by
  obtain ⟨a, n, cap, rfl, hn, hcl, hm, hc⟩ := hv
  have Hc := Lib.hid hc; clear hc
  rw [cardMarks_len] at hn
  have Hm := Lib.hid hm'; clear hm'
  have Hn := Lib.hid hn
  rw [← hn] at hl
  clear hn
  go_enter Tryd.func17, Tryd.ntmps17
  go_wp2
  go_loopw [1, 5] (fun s i wr => ∃ j q : Nat, i = .int .i64 j ∧ s = .int .i64 q ∧ q ≤ 1 + 3 * j ∧ 1 ≤ q ∧ j ≤ n ∧ Hid (q = 1 + 3 * j) ∧ Below w.heap.size w wr) (fun _ i _ => n - (intOf i).toNat)
  case atStart => exact ⟨0, 1, rfl, rfl, by omega, Nat.le_refl _, Nat.zero_le _, Lib.hid rfl, Below.refl _ _⟩
  case round =>
    obtain ⟨j, q, rfl, rfl, hq1, hq2, hj, HQ, hb⟩ := hrel
    by_cases hlt : j < n
    · obtain ⟨b, o, rfl, hbs, hsz, c0, c1, c2⟩ := (Hc.out.below hb) j (by rw [cardMarks_len, ← Hn.out]; exact hlt)
      have hx : nth (cardMarks l.length 1) j = cardMark q := cardMarks_nth (by rw [← Hn.out]; exact hlt) HQ.out
      rw [hx] at c0 c1 c2
      have e1 : (cardMark q).level = (q : Int) + 1 := by simp [cardMark]
      have e2 : (cardMark q).due = (q : Int) + 1 + 1 := by simp [cardMark]; omega
      rw [e1] at c1
      rw [e2] at c2
      change _ = some (Value.string (markB q)) at c0
      have k0 := cell_regrown c0
      have HC := Lib.hid (fun W => markText_c q W (by omega) (by omega))
      have HC1 := Lib.hid c1
      have HC2 := Lib.hid c2
      clear hx e1 e2 c0 c1 c2 hsz
      generalize markB q = s at *
      go_wp2
      refine wp_region_quiet_below (by kernel_rfl) (by kernel_rfl) ?_
      repeat (first | go_big_quiet_step (exact Calls.regrown_of (HC.out _)) | quiet_step (exact Calls.regrown_of (HC.out _)))
      refine wpQuiet_nil ?_
      intro _ hw'
      obtain ⟨⟨dq, osq⟩, hw''⟩ := hw'
      subst hw''
      have hbq := below_regrown wr dq osq
      generalize Go.Sort.grow (redrawn wr dq) osq = wq at *
      have hb2 := bthen hb hbq
      have c1 := cell_then hbs HC1.out hbq
      have c2 := cell_then hbs HC2.out hbq
      go_wp2
      exact ⟨⟨j + 1, q + 3, by go_num, by go_num, by omega, by omega, hlt, Lib.hid (by have := HQ.out; omega), hb2⟩, by simp [intOf]; omega⟩
    · obtain rfl : j = n := by omega
      have HR : Hid (q = m) := Lib.hid (by rw [Hm.out, HQ.out]; unfold cardsM; rw [← Hn.out])
      clear HQ
      go_wp2
      go_ret
      exact Gives.int (by rw [HR.out]) hb
end Go.Proofs.YtnhdoppabfmonaaDoor
