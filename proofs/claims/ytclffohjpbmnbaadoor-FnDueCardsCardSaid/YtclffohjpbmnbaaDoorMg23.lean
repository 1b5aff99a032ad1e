import Derived.Test.YtclffohjpbmnbaaDoorMg18
import Derived.Test.YtclffohjpbmnbaaDoorMg22
/- CardOrd: the cards in the order in which they are practiced, by both packages. -/
namespace Go.Proofs.YtclffohjpbmnbaaDoor
open Go.ChangeShapes Go.WideShapes Go.ChangeAt Go.RowKit

set_option maxHeartbeats 2000000 in
theorem dueLess (l : List Card) (a : Option Addr) (n cap : Nat) (B1 B2 : Nat) (a2 : Option Addr) (m c2 : Nat) (d : List Int) (W : World) (h1 : W.cell? ⟨B1, 0, none⟩ = some (.slice a n cap)) (h2 : W.cell? ⟨B2, 0, none⟩ = some (.slice a2 m c2)) (hb1 : B1 < W.heap.size) (hb2 : B2 < W.heap.size)
    (hc : CardsC W a l) (hn : n = l.length) (hd : IntsC W a2 d) (hm : m = d.length) (ho : ∀ x ∈ d, ∃ k : Nat, k < n ∧ x = (k : Int)) (i j : Nat) (hi : i < m) (hj : j < m) :
    Calls Tryd.prog 50 #[.int .i64 i, .int .i64 j, .pointer (some ⟨B1, 0, none⟩), .pointer (some ⟨B2, 0, none⟩)] W fun e w' => e = .returned (.bool (ltK (dueK l) (lvlK l) (nth d i) (nth d j))) ∧ Below W.heap.size W w' := by
  obtain ⟨b', o', rfl, hbs', di⟩ := hd i (by omega)
  obtain ⟨b2, o2, he, -, dj⟩ := hd j (by omega)
  cases he
  obtain ⟨p, hp, ep⟩ := ho _ (mem_nth (l := d) (i := i) (by omega))
  obtain ⟨q, hq, eq⟩ := ho _ (mem_nth (l := d) (i := j) (by omega))
  obtain ⟨b, o, rfl, hbs, -, p0, p1, p2⟩ := hc p (by omega)
  obtain ⟨b3, o3, he, -, -, q0, q1, q2⟩ := hc q (by omega)
  cases he
  have HK : Hid (ltK (dueK l) (lvlK l) (nth d i) (nth d j) = decide ((nth l p).due < (nth l q).due ∨ (nth l p).due = (nth l q).due ∧ (nth l p).level < (nth l q).level)) := Lib.hid (by rw [ep, eq]; rfl)
  rw [ep] at di
  rw [eq] at dj
  rw [HK.out]
  clear HK ep eq ho hc hd hn hm
  generalize nth l p = x at *
  generalize nth l q = y at *
  obtain ⟨xn, xl, xd⟩ := x
  obtain ⟨yn, yl, yd⟩ := y
  dsimp only at p0 p1 p2 q0 q1 q2 ⊢
  go_enter Tryd.func50, Tryd.ntmps50
  go_wp2
  have e1 : B1 ≠ W.heap.size := by omega
  have e2 : B2 ≠ W.heap.size := by omega
  have e3 : b' ≠ W.heap.size := by omega
  have e4 : b ≠ W.heap.size := by omega
  have e5 : B1 ≠ W.heap.size + 1 := by omega
  have e6 : B2 ≠ W.heap.size + 1 := by omega
  have e7 : b' ≠ W.heap.size + 1 := by omega
  have e8 : b ≠ W.heap.size + 1 := by omega
  go_region_held3 (fun w' => w'.cell? ⟨B1, 0, none⟩ = some (.slice (some ⟨b, o, none⟩) n cap) ∧ w'.cell? ⟨B2, 0, none⟩ = some (.slice (some ⟨b', o', none⟩) m c2) ∧ w'.cell? ⟨b', o' + i, none⟩ = some (.int .i64 p) ∧ w'.cell? ⟨b', o' + j, none⟩ = some (.int .i64 q) ∧ w'.cell? ⟨b, o + p * 3, none⟩ = some (.string xn) ∧ w'.cell? ⟨b, o + p * 3 + 1, none⟩ = some (.int .i64 xl) ∧ w'.cell? ⟨b, o + p * 3 + 2, none⟩ = some (.int .i64 xd) ∧ w'.cell? ⟨b, o + q * 3, none⟩ = some (.string yn) ∧ w'.cell? ⟨b, o + q * 3 + 1, none⟩ = some (.int .i64 yl) ∧ w'.cell? ⟨b, o + q * 3 + 2, none⟩ = some (.int .i64 yd)) (first | go_keep) (fail)
  all_goals clear e1 e2 e3 e4 e5 e6 e7 e8
  all_goals (rename_i hHeld; clear hHeld h1 h2 di dj p0 p1 p2 q0 q1 q2)
  all_goals rcases Int.lt_trichotomy xd yd with k1 | k1 | k1
  all_goals first
    | (have k2 : decide (xd < yd) = true := decide_eq_true k1
       go_wp2
       go_ret
       exact ⟨congrArg (fun b => Ending.returned (.bool b)) (decide_eq_true (.inl k1)).symm, by go_grown⟩)
    | (have k2 : decide (xd < yd) = false := decide_eq_false (by omega)
       have k3 : (xd == yd) = false := beq_eq_false_iff_ne.2 (by omega)
       go_wp2
       go_ret
       exact ⟨congrArg (fun b => Ending.returned (.bool b)) (decide_eq_false (by omega)).symm, by go_grown⟩)
    | (subst k1
       have k2 : decide (xd < xd) = false := decide_eq_false (by omega)
       have k3 : (xd == xd) = true := beq_self_eq_true _
       go_wp2
       go_ret
       exact ⟨congrArg (fun b => Ending.returned (.bool b)) (by simp), by go_grown⟩)

def OwnKI (w : World) (base : Nat) (v : Value) (l : List Int) : Prop := w.ownsRow base 3 1 v l.length (l.map (Value.int .i64))
theorem kInfo' : ∃ i0, Tryd.prog.info? 3 = some i0 ∧ i0.zero = some (.int .i64 0) ∧ i0.size = 1 ∧ i0.bytes = 8 := by
  obtain ⟨i0, h1, h2, h3, h4⟩ := info_parts (show (Tryd.prog.info? 3).map (fun i => (i.zero, i.size, i.bytes)) = some (some (.int .i64 0), 1, 8) by kernel_rfl)
  exact ⟨i0, h1, h2, h3, h4⟩
theorem wpList_app_kints {w : World} {ops : Array Oper} {rest : List Oper} {o : Oper} {a : Act} {Q : Exit → Act → World → Prop} (hgd : o.guard = none) (s x : Operand)
    (ho : o.op = .call { callee := .builtin .append, args := #[s, x], argTypes := #[49, 49] })
    (base : Nat) (v : Value) (l : List Int) (hs : a.eval s = v) (hown : OwnKI w base v l)
    (A : Option Addr) (m c : Nat) (t : List Int) (hx : a.eval x = .slice A m c) (hm : m = t.length) (hr : IntsC w A t)
    (hsz : l.length + t.length ≤ 1073741824) (hbase : base ≤ w.heap.size)
    (h : ∀ a' n' c' w', OwnKI w' base (.slice a' n' c') (l ++ t) → w.grownBy w' v.ownBlock → ((Value.slice a' n' c').ownBlock = v.ownBlock ∨ (Value.slice a' n' c').ownBlock = some w.heap.size) → n' = l.length + t.length → wpList Tryd.prog ops Q rest (a.put o.dst (.slice a' n' c')) w') : wpList Tryd.prog ops Q (o :: rest) a w := by
  obtain ⟨i0, h1, h2, h3, h4⟩ := kInfo'
  refine wpList_append_any w hgd s x 49 ho base 3 i0 _ 1 8 Tryd.underlying49 h1 h2 h3 h4 rfl (by decide) v l.length _ hs hown w.heap.size A m c (t.map (Value.int .i64)) hx (by rw [hm]; exact reads_ints hr) (ints_one t) (by rw [hm]; unfold maxLen; omega) (by rw [hm]; omega) hbase ?_
  intro v' w' hown' hg hb
  obtain ⟨a', c', rfl⟩ := slice_of_own hown'
  exact h a' _ c' w' (by unfold OwnKI; rw [List.map_append, List.length_append]; rw [hm] at hown'; rw [hm]; exact hown') hg hb (by rw [hm])
theorem own_kempty (w : World) : OwnKI (w.alloc (.cells #[] 3)) w.heap.size (.slice (some ⟨w.heap.size, 0, none⟩) 0 0) [] :=
  World.ownsRow_lit w #[] 0 (Nat.le_refl _) (by decide) rfl
set_option maxHeartbeats 2000000 in
theorem byDue_c (v : Value) (l : List Card) (w : World) (hv : CardsAt w v l) (hl6 : l.length ≤ 1000000) :
    Calls Tryd.prog 25 #[v] w fun e w' => ∃ a n c, e = .returned (.slice a n c) ∧ OwnKI w' w.heap.size (.slice a n c) (cardOrder l) ∧ n = l.length ∧ Below w.heap.size w w' := by
  obtain ⟨a, n, cap, rfl, hn, hl, hm, hc⟩ := hv
  have Hc := Lib.hid hc; clear hc
  rw [← hn] at hl6
  have Hn := Lib.hid hn; clear hn
  have HB1 : Hid (BoxIs (((w.alloc (.cells #[.slice a n cap] 24)).alloc (.cells #[] 3)).alloc (.cells #[.slice (some ⟨w.heap.size + 1, 0, none⟩) 0 0] 49)) w.heap.size [.slice a n cap]) := Lib.hid ((((BoxIs.new w [.slice a n cap] 24)).alloc _).alloc _)
  have HB2 : Hid (BoxIs (((w.alloc (.cells #[.slice a n cap] 24)).alloc (.cells #[] 3)).alloc (.cells #[.slice (some ⟨w.heap.size + 1, 0, none⟩) 0 0] 49)) (w.heap.size + 2) [.slice (some ⟨w.heap.size + 1, 0, none⟩) 0 0]) := Lib.hid (BoxIs.new' (by simp) [.slice (some ⟨w.heap.size + 1, 0, none⟩) 0 0] 49)
  have HO0 : Hid (OwnKI (((w.alloc (.cells #[.slice a n cap] 24)).alloc (.cells #[] 3)).alloc (.cells #[.slice (some ⟨w.heap.size + 1, 0, none⟩) 0 0] 49)) (w.heap.size + 1) (.slice (some ⟨w.heap.size + 1, 0, none⟩) 0 0) (iota 0)) := Lib.hid ((by simpa using own_kempty (w.alloc (.cells #[.slice a n cap] 24)) : OwnKI ((w.alloc (.cells #[.slice a n cap] 24)).alloc (.cells #[] 3)) (w.heap.size + 1) (.slice (some ⟨w.heap.size + 1, 0, none⟩) 0 0) []).alloc _)
  have HN0 : Hid ((Value.slice (some ⟨w.heap.size + 1, 0, none⟩) 0 0).ownBlock ≠ some (w.heap.size + 2)) := Lib.hid (by simp [Value.ownBlock])
  go_enter Tryd.func25, Tryd.ntmps25
  go_wp2
  go_loopw [8] (fun i wr => ∃ (k : Nat) (a' : Option Addr) (c' : Nat), i = .int .i64 k ∧ k ≤ n ∧ Hid (BoxIs wr w.heap.size [.slice a n cap]) ∧ Hid (BoxIs wr (w.heap.size + 2) [.slice a' k c']) ∧ Hid (OwnKI wr (w.heap.size + 1) (.slice a' k c') (iota k)) ∧ Hid ((Value.slice a' k c').ownBlock ≠ some (w.heap.size + 2)) ∧ w.heap.size + 3 ≤ wr.heap.size ∧ Below w.heap.size w wr) (fun i _ => n - (intOf i).toNat)
  case atStart => exact ⟨0, _, _, rfl, Nat.zero_le _, HB1, HB2, HO0, HN0, by simp, by go_grown⟩
  case round =>
    obtain ⟨k, a', c', rfl, hk, HA, HB, HO, HN, hs3, hb⟩ := hrel
    have e2 := HB.out.cells.1 0
    simp only [List.getElem?_cons_zero] at e2
    by_cases hlt : k < n
    · go_wp2_with (at_builtin; refine wpList_app_kints rfl _ _ rfl (w.heap.size + 1) _ _ rfl (HO.out.alloc _) _ _ _ [(k : Int)] rfl rfl (ints_new _ _ _) (by rw [iota_len]; simp; omega) (by simp; omega) ?_)
      intro a6 n6 c6 w6 ho6 hg6 hw6 hn6
      obtain rfl : n6 = k + 1 := by rw [iota_len] at hn6; exact hn6
      have hb6 : Below w.heap.size w w6 := (hb.alloc (by omega) _).grown hg6 (by simp; omega) (fun g hg => by have := (World.ownsRow.lt HO.out g hg).1; omega)
      have HA6 : Hid (BoxIs w6 w.heap.size [.slice a n cap]) := Lib.hid ((HA.out.alloc _).grown hg6 (fun h => by have := (World.ownsRow.lt HO.out _ h.symm).1; omega))
      have HB6 : Hid (BoxIs w6 (w.heap.size + 2) [.slice a' k c']) := Lib.hid ((HB.out.alloc _).grown hg6 (fun h => HN.out h.symm))
      have HN6 : Hid ((Value.slice a6 (k + 1) c6).ownBlock ≠ some (w.heap.size + 2)) := Lib.hid (by
        rcases hw6 with h | h
        · rw [h]; exact HN.out
        · rw [h]; simp; omega)
      have HO6 : Hid (OwnKI w6 (w.heap.size + 1) (.slice a6 (k + 1) c6) (iota (k + 1))) := Lib.hid (by rw [iota_succ]; exact ho6)
      have hs6 : w.heap.size + 3 ≤ w6.heap.size := by have := hg6.size; simp at this; omega
      clear ho6 hg6 hw6 hn6 e2
      obtain ⟨e6, f6⟩ := HB6.out.cells
      go_wp2
      exact ⟨⟨k + 1, a6, c6, by go_num, hlt, Lib.hid (HA6.out.set_other (by omega) _ _), Lib.hid (HB6.out.set 0 (by simp) _), Lib.hid (kown_off HO6.out _ HN6.out _), HN6, by simpa [World.setCell] using hs6, hb6.setCell (by show w.heap.size ≤ w.heap.size + 2; omega) _⟩, by simp [intOf]; omega⟩
    · obtain rfl : k = n := by omega
      have hown : wr.ownsRow (w.heap.size + 1) 3 1 (.slice a' k c') k ((iota k).map (Value.int .i64)) := by
        have h := HO.out
        unfold OwnKI at h
        rwa [iota_len] at h
      have HS := Lib.hid (stableInt_c 50 (enters_of Tryd.func50 (by kernel_rfl) rfl) #[.pointer (some ⟨w.heap.size, 0, none⟩), .pointer (some ⟨w.heap.size + 2, 0, none⟩)] (ltK (dueK l) (lvlK l)) (ltT (dueK l) (lvlK l)) (ltT_tr _ _) a' k c' (w.heap.size + 1) (iota k) wr hown (iota_len k).symm (by rw [iota_len]; exact hl6) (base_iota _ _ k) (by
        intro W d hp hg hW i j hi hj
        have hA := HA.out.grown hg (fun h => by have := (World.ownsRow.lt HO.out w.heap.size (by rw [own_block_slice]; exact h.symm)).1; omega)
        have hB := HB.out.grown hg (fun h => HN.out (by rw [own_block_slice]; exact h.symm))
        have hdl : d.length = k := hp.length_eq.trans (iota_len k)
        exact dueLess l a k cap w.heap.size (w.heap.size + 2) a' k c' d W (hA.2.1 0) (hB.2.1 0) hA.1 hB.1 (Hc.out.below (hb.grown hg (by omega) (fun g h => by have := (World.ownsRow.lt HO.out g (by rw [own_block_slice]; exact h)).1; omega))) Hn.out (own_kc hW hdl.symm) hdl.symm (fun x hx => mem_iota.1 (hp.mem_iff.1 hx)) i j hi hj))
      clear hown
      go_wp2_with fail
      refine HS.out.mono ?_
      rintro e w2 ⟨rfl, l', p1, p2, o2, g2⟩
      have hb2 : Below w.heap.size w w2 := hb.grown g2 (by omega) (fun g h => by have := (World.ownsRow.lt HO.out g (by rw [own_block_slice]; exact h)).1; omega)
      have HB2' : Hid (BoxIs w2 (w.heap.size + 2) [.slice a' k c']) := Lib.hid (HB.out.grown g2 (fun h => HN.out (by rw [own_block_slice]; exact h.symm)))
      have hl' : l' = cardOrder l := by unfold cardOrder; rw [← Hn.out]; exact order_unique p1 p2
      have HR : Hid (OwnKI w2 w.heap.size (.slice a' k c') (cardOrder l)) := Lib.hid (by
        rw [← hl']
        have hlen : l'.length = k := p1.length_eq.trans (iota_len k)
        unfold OwnKI; rw [hlen]; exact own_mono' o2 (by omega))
      clear p1 p2 o2 g2 hl' HS e2
      have e3 := HB2'.out.2.1 0
      simp only [List.getElem?_cons_zero] at e3
      go_wp2
      go_ret
      exact ⟨_, _, _, rfl, HR.out, Hn.out, hb2⟩
theorem kown_c {w : World} {base : Nat} {a : Option Addr} {n c : Nat} {L : List Int} (h : OwnKI w base (.slice a n c) L) (hn : n = L.length) : IntsC w a L := by
  subst hn; exact own_kc h rfl
end Go.Proofs.YtclffohjpbmnbaaDoor
