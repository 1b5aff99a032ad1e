/- Intss: lists of lists of numbers in memory: how large, a copy of them. -/
import Derived.Test.YtahkkiooklplhaaMarkSS
namespace Go.Proofs.Ytahkkiooklplhaa
open Go.ChangeShapes Go.WideShapes Go.ChangeAt Go.RowKit

def szIntssF : List (List Int) → Int → Int
  | [], left => left
  | x :: l, left => if szIntsT x left < 0 then -1 else szIntssF l (szIntsT x left)
def szIntssT (l : List (List Int)) (left : Int) : Int := if left - l.length < 0 then -1 else szIntssF l (left - l.length)
theorem szIntssF_le : ∀ (l : List (List Int)) (left : Int), 0 ≤ left → -1 ≤ szIntssF l left ∧ szIntssF l left ≤ left ∧ (0 ≤ szIntssF l left → ∀ x ∈ l, (x.length : Int) ≤ left)
  | [], left, h => ⟨by simp [szIntssF]; omega, by simp [szIntssF], fun _ c hc => by cases hc⟩
  | c :: l, left, h => by
    unfold szIntssF
    split
    · exact ⟨by omega, by omega, fun h => by omega⟩
    · rename_i hs
      have h1 := szIntsT_le c left h
      have h2 := szIntssF_le l (szIntsT c left) (by omega)
      refine ⟨h2.1, by omega, fun h3 d hd => ?_⟩
      cases hd with
      | head => exact h1.2.2 (by omega)
      | tail _ hd => have := h2.2.2 h3 d hd; omega
theorem szIntssT_le (l : List (List Int)) (left : Int) (h : 0 ≤ left) : -1 ≤ szIntssT l left ∧ szIntssT l left ≤ left ∧ (0 ≤ szIntssT l left → (l.length : Int) ≤ left ∧ ∀ x ∈ l, (x.length : Int) ≤ left) := by
  unfold szIntssT
  split
  · exact ⟨by omega, by omega, fun h => by omega⟩
  · have h2 := szIntssF_le l (left - l.length) (by omega)
    exact ⟨h2.1, by omega, fun h3 => ⟨by omega, fun c hc => by have := h2.2.2 h3 c hc; omega⟩⟩
theorem szInt64SS_c (v : Value) (l : List (List Int)) (left : Int) (w : World) (hv : IntssAt w v l) (h0 : 0 ≤ left) (h1 : left ≤ 1048576) :
    Calls Try.prog 21 #[v, .int .i64 left] w (Gives (.int .i64 (szIntssT l left)) w) := by
  obtain ⟨a, n, cap, rfl, hn, hl, hm, hc⟩ := hv
  have Hc := Lib.hid hc; clear hc
  have Hn := Lib.hid hn; clear hn
  by_cases h : left - n < 0
  · have HR : Hid (szIntssT l left = -1) := Lib.hid (by unfold szIntssT; rw [← Hn.out, if_pos h])
    go_enter Try.func21, Try.ntmps21
    go_wp2
    go_ret
    exact Gives.int HR.out (Below.refl _ _)
  · have HR : Hid (szIntssT l left = szIntssF l (left - n)) := Lib.hid (by unfold szIntssT; rw [← Hn.out, if_neg h])
    go_enter Try.func21, Try.ntmps21
    go_wp2
    go_loopw [1, 5] (fun s i wr => ∃ (k : Nat) (r : Int), i = .int .i64 k ∧ s = .int .i64 r ∧ k ≤ n ∧ 0 ≤ r ∧ r ≤ 1048576 ∧ Hid (szIntssT l left = szIntssF (l.drop k) r) ∧ Below w.heap.size w wr) (fun _ i _ => n - (intOf i).toNat)
    case atStart => exact ⟨0, left - n, rfl, rfl, Nat.zero_le _, by omega, by omega, HR, Below.refl _ _⟩
    case round =>
      obtain ⟨k, r, rfl, rfl, hk, hr0, hr1, HS, hb⟩ := hrel
      by_cases hlt : k < n
      · obtain ⟨b, o, pa, pn, pc, rfl, hbs, hp, c0⟩ := intss_cells (Hc.out.below hb) k (by rw [← Hn.out]; exact hlt)
        have HT : Hid (szIntssT l left = if szIntsT (nth l k) r < 0 then -1 else szIntssF (l.drop (k + 1)) (szIntsT (nth l k) r)) := Lib.hid (by rw [HS.out, drop_nth l k (by rw [← Hn.out]; exact hlt)]; rfl)
        clear HS
        have hle := szIntsT_le (nth l k) r hr0
        have HQ := Lib.hid (szInt64S_c (.slice pa pn pc) (nth l k) r wr hp hr0 hr1); clear hp
        generalize szIntsT (nth l k) r = z at *
        go_wp2_with fail
        refine HQ.out.mono ?_
        rintro e w1 ⟨rfl, hb1⟩
        have hb2 := bthen hb hb1
        by_cases hzz : z < 0
        · go_wp2
          go_ret
          exact Gives.int (by rw [HT.out, if_pos hzz]) hb2
        · go_wp2
          exact ⟨⟨k + 1, z, by go_num, rfl, hlt, by omega, by omega, Lib.hid (by rw [HT.out, if_neg (by omega)]), hb2⟩, by simp [intOf]; omega⟩
      · go_wp2
        go_ret
        exact Gives.int (by rw [HS.out, drop_end l k n Hn.out (by omega)]; rfl) hb
theorem ssInfo1 : (Try.prog.info? 42).map (fun i => (i.zero, i.size, i.bytes)) = some (some (.slice none 0 0), 1, 24) := by kernel_rfl
theorem fillSS {α : Type} [Inhabited α] {enc : α → List Value} {l : List α} {k : Nat} {xs : List Value} {x : Value} (h : ∀ i, i < k → ∀ j, j < 1 → xs[i * 1 + j]? = (enc (nth l i))[j]?) (he : enc (nth l k) = [x]) (hlen : k + 1 ≤ xs.length) :
    ∀ i, i < k + 1 → ∀ j, j < 1 → (xs.set k x)[i * 1 + j]? = (enc (nth l i))[j]? := by
  intro i hi j hj
  obtain rfl : j = 0 := by omega
  by_cases hik : i < k
  · rw [List.getElem?_set_ne (by omega)]; exact h i hik 0 hj
  · obtain rfl : i = k := by omega
    rw [he, Nat.mul_one, Nat.add_zero, List.getElem?_set_self (by omega)]; rfl
set_option maxHeartbeats 1000000 in
theorem toInt64SS_c (v : Value) (l : List (List Int)) (w : World) (hv : IntssAt w v l) (hl20 : l.length ≤ 1048576) (hp20 : ∀ x ∈ l, x.length ≤ 1048576) :
    Calls Try.prog 23 #[v] w fun e w' => ∃ a n cap, e = .returned (.slice a n cap) ∧ OwnIntss w' w.heap.size (.slice a n cap) l ∧ Below w.heap.size w w' := by
  obtain ⟨a, n, cap, rfl, hn, hl, hm, hc⟩ := hv
  have Hc := Lib.hid hc; clear hc
  have hn20 : n ≤ 1048576 := by omega
  have Hn := Lib.hid hn; clear hn hl20
  have Hp20 := Lib.hid hp20; clear hp20
  obtain ⟨i0, hi, hz0, hz1, hz2⟩ := info_parts ssInfo1
  obtain ⟨w1, hmk, hown, hgr⟩ := run_make_full (P := Try.prog) w w.heap.size 40 42 i0 _ 1 Try.underlying40 hi hz0 hz1 .i64 .i64 n (by rw [hz2]; omega) (by unfold maxLen; omega) (Nat.le_refl _)
  have hb1 : Below w.heap.size w w1 := (Below.refl _ _).grown hgr (Nat.le_refl _) (fun k h => by cases h)
  have Hs1 : Hid (w.heap.size < w1.heap.size) := Lib.hid ((hown.lt w.heap.size rfl).2)
  have Hown := Lib.hid hown; clear hown hgr hi hz0 hz1 hz2
  go_enter Try.func23, Try.ntmps23
  go_wp2
  go_loopw [4] (fun i wr => ∃ (k : Nat) (xs : List Value) (ps : List (Value × List Int)), i = .int .i64 k ∧ k ≤ n ∧ Hid (w.heap.size < wr.heap.size) ∧ Hid (wr.ownsRow w.heap.size 42 1 (.slice (some ⟨w.heap.size, 0, none⟩) n n) n xs) ∧ Hid (ps.map (·.2) = l.take k) ∧
      Hid (∀ i, i < k → ∀ j, j < 1 → xs[i * 1 + j]? = (intssS.enc (nth ps i).1 (nth ps i).2)[j]?) ∧
      Hid (∀ p ∈ ps, (∃ pa pn pc, p.1 = .slice pa pn pc) ∧ OwnInts wr (w.heap.size + 1) p.1 p.2 ∧ True ∧ ∀ g, p.1.ownBlock = some g → (Value.slice (some ⟨w.heap.size, 0, none⟩) n n).ownBlock ≠ some g) ∧
      Hid (ps.Pairwise (fun p q => ∀ g, p.1.ownBlock = some g → q.1.ownBlock ≠ some g)) ∧ Below w.heap.size w wr) (fun i _ => n - (intOf i).toNat)
  case atStart => exact ⟨0, _, [], rfl, Nat.zero_le _, Hs1, Hown, Lib.hid rfl, Lib.hid fun i hi => absurd hi (Nat.not_lt_zero _), Lib.hid (fun p hp => absurd hp (List.not_mem_nil)), Lib.hid List.Pairwise.nil, hb1⟩
  case round =>
    obtain ⟨k, xs, ps, rfl, hk, HS, HO, HM, HX, HP, HW, hb⟩ := hrel
    clear hb1 Hown hmk Hs1
    by_cases hlt : k < n
    · obtain ⟨b, o, pa, pn, pc, rfl, hbs, hp, c0⟩ := intss_cells (Hc.out.below hb) k (by rw [← Hn.out]; exact hlt)
      have HQ := Lib.hid (toInt64S_c (.slice pa pn pc) (nth l k) wr hp (Hp20.out _ (mem_nth (by rw [← Hn.out]; exact hlt)))); clear hp
      go_wp2_with fail
      refine HQ.out.mono ?_
      rintro e w2 ⟨a1, n1, c3, rfl, o1, hb2⟩
      have hlenps : ps.length = k := by have := congrArg List.length HM.out; simp at this; rw [this, Nat.min_eq_left (by rw [← Hn.out]; omega)]
      have hall := nest_more (S := intssS) (w := w2) (base := w.heap.size + 1) (ps := ps) (v := .slice (some ⟨w.heap.size, 0, none⟩) n n) (pv := .slice a1 n1 c3) (x := nth l k) (B := wr.heap.size)
        (fun p hp => ⟨(HP.out p hp).1, own_below (HP.out p hp).2.1 hb2, (HP.out p hp).2.2.1, (HP.out p hp).2.2.2⟩) HW.out (fun p hp g hg => (World.ownsRow.lt (HP.out p hp).2.1 g hg).2) ⟨_, _, _, rfl⟩ o1 HS.out trivial
        (fun g hg hg2 => by
          have h1 := (World.ownsRow.lt o1 g hg).1
          have h2 := HS.out
          simp [Value.ownBlock] at hg2
          omega)
      have HP2 := Lib.hid hall.1
      have HW2 := Lib.hid hall.2
      have HM2 : Hid ((ps ++ [(Value.slice a1 n1 c3, nth l k)]).map (·.2) = l.take (k + 1)) := Lib.hid (by rw [List.map_append, HM.out, take_nth l k (by rw [← Hn.out]; exact hlt)]; rfl)
      have HN : Hid (nth (ps ++ [(Value.slice a1 n1 c3, nth l k)]) k = (Value.slice a1 n1 c3, nth l k)) := Lib.hid (by simp [nth, ← hlenps])
      have HNl : Hid (∀ i, i < k → nth (ps ++ [(Value.slice a1 n1 c3, nth l k)]) i = nth ps i) := Lib.hid (fun i hi => by simp [nth, List.getElem?_append_left (show i < ps.length by omega)])
      clear hall hlenps HP HW HM
      have hS2 : Hid (w.heap.size < w2.heap.size) := Lib.hid (Nat.lt_of_lt_of_le HS.out hb2.size)
      have ho2 := own_below HO.out hb2
      have hlen := ho2.1
      have e0 := (ho2.cellAt k (by omega)).trans (List.getElem?_eq_getElem (by omega))
      have f0 := ho2.frozenAt k
      generalize xs[k] = y0 at e0
      have HO2 := Lib.hid ho2
      have HO1 := Lib.hid o1
      clear ho2 HO o1
      have Hlen := Lib.hid hlen; clear hlen
      go_wp2
      refine ⟨⟨k + 1, _, ps ++ [(Value.slice a1 n1 c3, nth l k)], by go_num, hlt, Lib.hid (by simp only [World.size_setCell]; exact hS2.out), Lib.hid (HO2.out.stored k _).1, HM2, Lib.hid ?_, Lib.hid ?_, HW2, ((bthen hb hb2).setCell (Nat.le_refl _) _)⟩, by simp [intOf]; omega⟩
      · refine fillSS (enc := fun p : Value × List Int => intssS.enc p.1 p.2) (fun i hi j hj => ?_) (by rw [HN.out]; rfl) (by rw [Hlen.out]; omega)
        rw [HNl.out i hi]; exact HX.out i hi j hj
      · intro p hp
        obtain ⟨h1, h2, h3, h4⟩ := HP2.out p hp
        exact ⟨h1, ownsRow_setCell_below h2 (by simp only []; omega) _, trivial, h4⟩
    · obtain rfl : k = n := by omega
      have hlenps : ps.length = k := by have := congrArg List.length HM.out; simp at this; rw [this, Hn.out, Nat.min_self]
      have hml : ps.map (·.2) = l := by rw [HM.out, Hn.out, List.take_length]
      have hfin : xs = ps.flatMap (fun p => intssS.enc p.1 p.2) := flat_ext (fun p : Value × List Int => intssS.enc p.1 p.2) 1 (fun _ => rfl) ps xs (by rw [hlenps]; exact HO.out.1) (fun i hi j hj => HX.out i (by omega) j hj)
      have hown : OwnIntss wr w.heap.size (.slice (some ⟨w.heap.size, 0, none⟩) k k) l := ⟨ps, hml, by rw [← hfin, ← Hn.out]; exact HO.out, fun p hp => ⟨(HP.out p hp).1, own_mono (HP.out p hp).2.1 (by omega), trivial, (HP.out p hp).2.2.2⟩, HW.out⟩
      have HO3 := Lib.hid hown
      clear HO HX HP HW HM hfin hown hml hlenps
      go_wp2
      go_ret
      exact ⟨_, _, _, rfl, HO3.out, hb⟩
end Go.Proofs.Ytahkkiooklplhaa
