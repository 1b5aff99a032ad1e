import Derived.Test.YtcgbdhbdlnimhaaGreatMg30
import Derived.Test.YtcgbdhbdlnimhaaGreatMg21
import Derived.Test.YtcgbdhbdlnimhaaGreatMg22
import Derived.Test.YtcgbdhbdlnimhaaGreatMg36
import Derived.Test.YtcgbdhbdlnimhaaGreatMg41
import Derived.Test.YtcgbdhbdlnimhaaGreatMg11
/- DrawI1: items that are drawn: an append of an item whose pattern lies elsewhere; what the library is drawn from. -/
namespace Go.Proofs.YtcgbdhbdlnimhaaGreat
open Go.ChangeShapes Go.WideShapes Go.ChangeAt Go.RowKit

theorem PatI.below {w w' : World} {base : Nat} {v : Value} {p : Value × Item} (h : PatI w base v p) (hb : Below w.heap.size w w') : PatI w' base v p :=
  ⟨h.1, h.2.1.below hb, h.2.2.1, fun g hg => ⟨(h.2.2.2 g hg).1, Nat.lt_of_lt_of_le (h.2.2.2 g hg).2.1 hb.size, (h.2.2.2 g hg).2.2⟩⟩
/-- 'append(out, x)' at an item whose pattern lies elsewhere. -/
theorem wpList_row_items {W1 : World} {ops : Array Oper} {rest : List Oper} {o : Oper} {a : Act} {Q : Exit → Act → World → Prop} (hgd : o.guard = none) (s y : Operand)
    (ho : o.op = .call { callee := .builtin .append, args := #[s, y], argTypes := #[24, 24] })
    (P n : Nat) (v : Value) (ps : List (Value × Item)) (hn : n = ps.length) (pa : Option Addr) (pn pc : Nat) (nm : ByteArray) (x : Item) (hx : x.name = nm) (hs : a.eval s = v) (hR : RowI W1 P v ps) (hp : PatI W1 P v (.slice pa pn pc, x)) (hP : P ≤ W1.heap.size)
    (g : Nat) (hy : a.eval y = .slice (some ⟨g, 0, none⟩) 1 1) (hg0 : g = W1.heap.size) (hsz : ps.length ≤ 1000000)
    (h : ∀ a' c' w', RowI w' P (.slice a' (n + 1) c') (ps ++ [(.slice pa pn pc, x)]) → Below P W1 w' → (∀ k, k < W1.heap.size → v.ownBlock ≠ some k → w'.heap[k]? = W1.heap[k]?) →
      ((Value.slice a' (n + 1) c').ownBlock = v.ownBlock ∨ ∃ k, (Value.slice a' (n + 1) c').ownBlock = some k ∧ W1.heap.size ≤ k) → wpList Tryz.prog ops Q rest (a.put o.dst (.slice a' (n + 1) c')) w') : wpList Tryz.prog ops Q (o :: rest) a (W1.alloc (.cells #[.string nm, .slice pa pn pc] 62)) := by
  subst hg0 hn hx
  have hb1 : Below W1.heap.size W1 (W1.alloc (.cells #[.string x.name, .slice pa pn pc] 62)) := by go_grown
  have hR1 := hR.below hb1
  have hp1 := hp.below hb1
  refine wpList_app_items hgd s y ho P v ps.length (itRow ps) hs hR1.1 _ 1 1 [.string x.name, .slice pa pn pc] hy (item_new _ _ _ _) (by intro z hz; simp at hz; rcases hz with rfl | rfl <;> rfl) (by omega) (by simp; omega) ?_
  intro a' n' c' w' hn' hown' hg hloc
  subst hn'
  refine h a' c' w' (hR1.snoc hp1 hown' hg hloc) (((Below.refl _ _).alloc hP _).grown hg (by simp; omega) (fun g hg' => (hR1.1.lt g hg').1)) (fun k hk hne => ?_) ?_
  · rw [hg.block k (by simp; omega) (fun e => hne e.symm)]
    exact Below.heap_alloc _ _ _ hk
  · rcases hloc with e | e
    · exact .inl e
    · exact .inr ⟨_, e, by simp⟩
end Go.Proofs.YtcgbdhbdlnimhaaGreat

/- DrawI2: libraries that are drawn. -/
namespace Go.Proofs.YtcgbdhbdlnimhaaGreat
open Go.ChangeShapes Go.WideShapes Go.ChangeAt Go.RowKit

/-- What is drawn as a library: a row of the call's own. -/
def DrawsIt (b n : Nat) (w : World) (e : Ending) (w' : World) : Prop := ∃ (a : Option Addr) (m c : Nat) (ps : List (Value × Item)), e = .returned (.slice a m c) ∧ (ps.length ≤ 80 ∧ ∀ p ∈ ps, TxI1 p.2) ∧ RowI w' w.heap.size (.slice a m c) ps ∧ Drew b n w w'
theorem std_tx : ∀ x ∈ stdL, TxI1 x := by
  have h : stdL.all (fun x => decide (x.name.size ≤ 20) && ((decide (1 ≤ x.pattern.length) && decide (x.pattern.length ≤ 13)) && x.pattern.all (fun y => decide (0 ≤ y) && decide (y ≤ 15)))) = true := by decide
  intro x hx
  have h1 := List.all_eq_true.1 h x hx
  simp only [Bool.and_eq_true, decide_eq_true_eq, List.all_eq_true] at h1
  exact ⟨h1.1, h1.2.1, h1.2.2⟩
theorem add_tx {l : List Item} {s : ByteArray} {p : List Int} (hc : addItCode l s p = 0) (hs : s.size ≤ 20) (hl : ∀ x ∈ l, TxI1 x) : (addItL l s p).length = l.length + 1 ∧ ∀ x ∈ addItL l s p, TxI1 x := by
  have hp : okPat p = true := by
    cases h : okPat p
    · unfold addItCode at hc
      rw [h] at hc
      split at hc <;> simp at hc
    · rfl
  unfold addItL
  rw [if_pos hc]
  refine ⟨insB_len _ _ _, fun x hx => ?_⟩
  rcases List.mem_cons.1 ((insB_perm (ltN Item.name) l ⟨s, canL p⟩).mem_iff.1 hx) with rfl | h
  · have hk := okPat_can hp
    exact ⟨hs, (by have := ok_in hk; show 1 ≤ (canL p).length ∧ (canL p).length ≤ 13; omega), fun y hy => okPat_mem hk y hy⟩
  · exact hl x h
set_option maxRecDepth 100000 in
set_option maxHeartbeats 4000000 in
theorem l22Draw_c (b n : Nat) (w : World) (h : SrcAt w b n) (hn : n ≤ 900000) : Calls Tryz.prog 73 #[.pointer (some ⟨b, 0, none⟩)] w (DrawsIt b (n + 2000) w) := by
  have HS := Lib.hid h
  have hbl := h.lt
  clear h
  go_enter Tryz.func73, Tryz.ntmps73
  go_wp2_with fail
  have HO0 := Lib.hid (rowI_empty w)
  have hb0 : Below w.heap.size w (w.alloc (.cells #[] 62)) := by go_grown
  have hA0 : (w.alloc (.cells #[] 62)).heap.size = w.heap.size + 1 := by simp
  generalize w.alloc (.cells #[] 62) = w1 at *
  refine (sStandardItems_c w1).mono ?_
  rintro e w2 ⟨sa, sn, sc, rfl, ho, hb2⟩
  obtain ⟨qs, hqs, hq⟩ := RowI.of ho
  have hs2 := hb2.size
  have HO2 := Lib.hid (HO0.out.below hb2)
  have HD2 := Lib.hid ((Drew.of_below HS.out hb0).then_below hb2)
  have HQ := Lib.hid hq
  have hql : qs.length = 10 := by rw [← List.length_map (f := (·.2)), hqs]; rfl
  have hsn := hq.len
  rw [hql] at hsn
  subst hsn
  have HAl : Hid (∀ g, ((Value.slice sa 10 sc).ownBlock = some g ∨ ∃ q ∈ qs, q.1.ownBlock = some g) → w.heap.size < g ∧ g < w2.heap.size) := Lib.hid (fun g hg => by
    have h1 := hq.ge g hg
    refine ⟨by omega, ?_⟩
    rcases hg with hg | ⟨q, hqm, hg⟩
    · exact (hq.1.lt g hg).2
    · exact ((hq.2 q hqm).2.2.2 g hg).2.1)
  have HTx : Hid (∀ q ∈ qs, TxI1 q.2) := Lib.hid (fun q hqm => std_tx _ (by rw [← hqs]; exact List.mem_map_of_mem hqm))
  have HQl := Lib.hid hql
  obtain ⟨G, hG, hG1, hG2⟩ := hq.head (by decide)
  subst hG
  clear ho hq hqs hb2 hb0 HO0 HS hql
  go_wp2
  go_loopw [3, 5] (fun o i wr => ∃ (k : Nat) (a' : Option Addr) (n' c' : Nat) (ps : List (Value × Item)), i = .int .i64 k ∧ k ≤ 10 ∧ o = .slice a' n' c' ∧ Hid (ps.length ≤ k ∧ ∀ p ∈ ps, TxI1 p.2) ∧ Hid (RowI wr w.heap.size (.slice a' n' c') ps) ∧ Hid (∀ g, (Value.slice a' n' c').ownBlock = some g → g = w.heap.size ∨ w2.heap.size ≤ g) ∧ Hid (RowI wr w1.heap.size (.slice (some ⟨G, 0, none⟩) 10 sc) qs) ∧ w2.heap.size ≤ wr.heap.size ∧ Hid (Drew b (n + 2 * k) w wr)) (fun _ i _ => 10 - (intOf i).toNat)
  case atStart => exact ⟨0, _, _, _, [], rfl, Nat.zero_le _, rfl, Lib.hid ⟨Nat.le_refl _, fun _ h => absurd h List.not_mem_nil⟩, HO2, Lib.hid (fun g hg => .inl (by simp [Value.ownBlock] at hg; omega)), HQ, Nat.le_refl _, Lib.hid (HD2.out.mono (by omega))⟩
  case round =>
    obtain ⟨k, a', n', c', ps, rfl, hk, rfl, HPs, HO, HLoc, HA, hsr, HD⟩ := hrel
    by_cases hlt : k < 10
    · go_wp2_with fail
      refine (one_c b _ 3 _ HD.out.1 (by omega) (by omega)).mono ?_
      rintro e w5 ⟨d, rfl, hd⟩
      replace HO := Lib.hid (HO.out.drew hd hbl)
      replace HA := Lib.hid (HA.out.drew hd (by omega))
      replace HD := Lib.hid (HD.out.trans hd)
      have hs5 := HD.out.2.size
      have hsr5 := Nat.le_trans hsr hd.2.size
      clear hd
      cases d
      · go_wp2
        exact ⟨⟨k + 1, a', n', c', ps, by go_num, hlt, rfl, Lib.hid ⟨by have := HPs.out.1; omega, HPs.out.2⟩, HO, HLoc, HA, hsr5, Lib.hid (HD.out.mono (by omega))⟩, by simp [intOf]; omega⟩
      · have hkq : k < qs.length := by rw [HQl.out]; exact hlt
        have hm := mem_nth hkq
        have hx0 := (HA.out.cell hkq 0 (by decide)).1
        have hx1 := (HA.out.cell hkq 1 (by decide)).1
        have hpat := HA.out.2 _ hm
        have htx := HTx.out _ hm
        have hal := HAl.out
        generalize hqk : nth qs k = qk at *
        obtain ⟨pv, x⟩ := qk
        obtain ⟨pa, pn, pc, hpv⟩ := hpat.1
        dsimp only at hpv
        subst hpv
        have hx0' : w5.cell? ⟨G, k * 2, none⟩ = some (.string x.name) := hx0
        have hx1' : w5.cell? ⟨G, k * 2 + 1, none⟩ = some (.slice pa pn pc) := hx1
        have HP : Hid (PatI w5 w.heap.size (.slice a' n' c') (.slice pa pn pc, x)) := Lib.hid ⟨⟨_, _, _, rfl⟩, hpat.2.1, hpat.2.2.1, fun g hg => ⟨by have := hal g (.inr ⟨_, hm, hg⟩); omega, (hpat.2.2.2 g hg).2.1, fun e => by
          have h1 := hal g (.inr ⟨_, hm, hg⟩)
          rcases HLoc.out g e with h2 | h2 <;> omega⟩⟩
        have HTk : Hid (TxI1 x) := Lib.hid htx
        have hnl := HO.out.len
        have Hnl := Lib.hid hnl
        have hpl : n' ≤ 10 := by have := HPs.out.1; omega
        clear hx0 hx1 hpat htx hal hm hkq hnl hqk
        generalize hnm : x.name = nm at *
        have Hnm := Lib.hid hnm
        clear hnm
        go_wp2_with (at_builtin; refine wpList_row_items rfl _ _ rfl w.heap.size n' (.slice a' n' c') ps Hnl.out pa pn pc nm x Hnm.out (by rfl) HO.out HP.out hs5 _ (by rfl) rfl (by have := HPs.out.1; omega) ?_)
        intro a7 c7 w7 ho7 hb7 hk7 hl7
        have HO7 := Lib.hid ho7
        have HD7 := Lib.hid (HD.out.thenK hb7 hbl)
        have HA7 : Hid (RowI w7 w1.heap.size (.slice (some ⟨G, 0, none⟩) 10 sc) qs) := Lib.hid (HA.out.heap hb7.size (fun g hg hgo => hk7 g hg (fun e => by
          have h1 := HAl.out g hgo
          rcases HLoc.out g e with h2 | h2 <;> omega)))
        have hs57 := Nat.le_trans hsr5 hb7.size
        have HLoc7 : Hid (∀ g, (Value.slice a7 (n' + 1) c7).ownBlock = some g → g = w.heap.size ∨ w2.heap.size ≤ g) := Lib.hid (fun g hg => by
          rcases hl7 with e | ⟨k7, e, h7⟩
          · exact HLoc.out g (by rw [← e]; exact hg)
          · rw [e] at hg; injection hg with hg; exact .inr (by omega))
        have HPs7 : Hid ((ps ++ [(Value.slice pa pn pc, x)]).length ≤ k + 1 ∧ ∀ p ∈ ps ++ [(Value.slice pa pn pc, x)], TxI1 p.2) := Lib.hid ⟨by have := HPs.out.1; simp; omega, fun p hp => by
          rcases List.mem_append.1 hp with h | h
          · exact HPs.out.2 p h
          · rw [List.mem_singleton.1 h]; exact HTk.out⟩
        clear ho7 hb7 hk7 hl7 HO HD HA HLoc HPs HP hx0' hx1' Hnm
        go_wp2
        exact ⟨⟨k + 1, a7, n' + 1, c7, _, by go_num, hlt, rfl, HPs7, HO7, HLoc7, HA7, hs57, Lib.hid (HD7.out.mono (by omega))⟩, by simp [intOf]; omega⟩
    · obtain rfl : k = 10 := by omega
      clear HA HLoc HAl HTx HQl HQ HO2 HD2
      go_wp2_with fail
      refine (pick_c b _ 3 _ HD.out.1 (by omega) (by omega)).mono ?_
      rintro e w5 ⟨r, rfl, hr, hd⟩
      have hr2 : r ≤ 2 := by omega
      have HO5 := Lib.hid (HO.out.drew hd hbl)
      have HD5 := Lib.hid (HD.out.trans hd)
      have HPs5 := HPs
      clear hd hr HO HD HPs
      generalize hps0 : ps = ps0 at *
      clear hps0
      go_wp2
      go_loopw [3, 6] (fun o i wr => ∃ (k : Nat) (a' : Option Addr) (n' c' : Nat) (ps : List (Value × Item)), i = .int .i64 k ∧ k ≤ r ∧ o = .slice a' n' c' ∧ Hid (ps.length + k ≤ 12 ∧ ∀ p ∈ ps, TxI1 p.2) ∧ Hid (RowI wr w.heap.size (.slice a' n' c') ps) ∧ Hid (Drew b (n + 100 + 600 * (r - k)) w wr)) (fun _ i _ => (intOf i).toNat)
      case atStart => exact ⟨r, _, _, _, ps0, rfl, Nat.le_refl _, rfl, Lib.hid ⟨by have := HPs5.out.1; omega, HPs5.out.2⟩, HO5, Lib.hid (HD5.out.mono (by omega))⟩
      case round =>
        obtain ⟨k, a', n', c', ps, rfl, hk, rfl, HPs, HO, HD⟩ := hrel
        by_cases hlt : 0 < k
        · obtain ⟨k', rfl⟩ : ∃ k', k = k' + 1 := ⟨k - 1, by omega⟩
          have hlt2 : (0 : Int) < ((k' + 1 : Nat) : Int) := by omega
          go_wp2_with fail
          refine (l22Name_c b _ _ HD.out.1 (by omega)).mono ?_
          rintro e w6 ⟨s, hs, rfl, hd⟩
          replace HO := Lib.hid (HO.out.drew hd hbl)
          replace HD := Lib.hid (HD.out.trans hd)
          clear hd
          go_wp2_with fail
          refine (l02DrawT_c b _ 5 w6 HD.out.1 (by omega) (by omega)).mono ?_
          rintro e w7 ⟨pa, pm, pc, l, rfl, -, ho, hd⟩
          replace HO := Lib.hid (HO.out.drew hd hbl)
          replace HD := Lib.hid (HD.out.trans hd)
          have HP := Lib.hid (OwnInts.at ho)
          clear ho hd
          go_wp2_with fail
          refine (sAddItem_c _ _ (ps.map (·.2)) s l w7 HO.out.at HP.out (by omega)).mono ?_
          rintro e w8 ⟨xa, xn, xc, rfl, ho, hb8⟩
          have hs7 := HD.out.2.size
          replace HD := Lib.hid (HD.out.then_below hb8)
          clear HP
          by_cases hc : addItCode (ps.map (·.2)) s l = 0
          · obtain ⟨hlen, htx⟩ := add_tx hc (by omega) (l := ps.map (·.2)) (fun x hx => by
              obtain ⟨q, hq, rfl⟩ := List.mem_map.1 hx
              exact HPs.out.2 q hq)
            rw [List.length_map] at hlen
            obtain ⟨qs2, hqs2, hR⟩ := RowI.of ho
            have hl2 : qs2.length = ps.length + 1 := by rw [← hlen, ← hqs2]; simp
            have HO8 : Hid (RowI w8 w.heap.size (.slice xa xn xc) qs2) := Lib.hid (hR.mono hs7)
            have HPs8 : Hid (qs2.length + k' ≤ 12 ∧ ∀ p ∈ qs2, TxI1 p.2) := Lib.hid ⟨by have := HPs.out.1; omega, fun p hp => htx _ (by rw [← hqs2]; exact List.mem_map_of_mem hp)⟩
            rw [hc]
            clear hc hlen htx hqs2 hR hl2 ho HO HPs hb8
            go_wp2
            exact ⟨⟨k', xa, xn, xc, qs2, by go_num, by omega, rfl, HPs8, HO8, Lib.hid (HD.out.mono (by omega))⟩, by simp [intOf]⟩
          · have hcb : (addItCode (ps.map (·.2)) s l == 0) = false := beq_eq_false_iff_ne.2 hc
            replace HO := Lib.hid (HO.out.below hb8)
            clear hc ho hb8
            generalize addItCode (ps.map (·.2)) s l = code at *
            go_wp2
            exact ⟨⟨k', a', n', c', ps, by go_num, by omega, rfl, Lib.hid ⟨by have := HPs.out.1; omega, HPs.out.2⟩, HO, Lib.hid (HD.out.mono (by omega))⟩, by simp [intOf]⟩
        · obtain rfl : k = 0 := by omega
          go_wp2
          go_ret
          exact ⟨a', n', c', ps, rfl, ⟨by have := HPs.out.1; omega, HPs.out.2⟩, HO.out, HD.out.mono (by omega)⟩
end Go.Proofs.YtcgbdhbdlnimhaaGreat
