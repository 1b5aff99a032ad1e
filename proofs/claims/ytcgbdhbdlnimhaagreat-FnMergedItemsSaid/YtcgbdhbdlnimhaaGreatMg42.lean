import Derived.Test.YtcgbdhbdlnimhaaGreatMg41
import Derived.Test.YtcgbdhbdlnimhaaGreatMg29
import Derived.Test.YtcgbdhbdlnimhaaGreatMg11
/- LibL: plain laws on libraries: what is added is found, and gone again; merging. -/
namespace Go.Proofs.YtcgbdhbdlnimhaaGreat
open Go.ChangeShapes Go.WideShapes Go.ChangeAt Go.RowKit

def GoodI (x : Item) : Prop := nameB (chars x.name) = true ∧ okPat x.pattern = true ∧ canL x.pattern = x.pattern
theorem canIs_iff (p : List Int) : canIs p = true ↔ canL p = p := same2_iff eqI eqI_iff _ _
theorem okItems_good {l : List Item} (h : okItems l = true) : ∀ x ∈ l, GoodI x := by
  intro x hx
  obtain ⟨i, hi, rfl⟩ := List.getElem_of_mem hx
  rw [← nth_eq l i hi]
  have h1 := okItems_at h hi
  unfold okItemAt at h1
  simp only [Bool.and_eq_true] at h1
  exact ⟨h1.1, h1.2.1, (canIs_iff _).1 h1.2.2.1⟩
theorem okItems_of {l : List Item} (hg : ∀ x ∈ l, GoodI x) (ho : l.Pairwise fun a b => lessB a.name b.name = true) (hp : DP l) (hl : l.length ≤ 60) : okItems l = true := by
  unfold okItems okTo
  rw [decide_eq_true hl, Bool.and_true, List.all_eq_true]
  intro k hk
  have hk := List.mem_range.1 hk
  obtain ⟨h1, h2, h3⟩ := hg _ (mem_nth hk)
  unfold okItemAt
  rw [h1, h2, (canIs_iff _).2 h3, Bool.true_and, Bool.true_and, Bool.true_and, Bool.and_eq_true]
  refine ⟨?_, freshAt_true fun j hj => ?_⟩
  · unfold ordAt
    by_cases h0 : k = 0
    · rw [decide_eq_true h0, Bool.true_or]
    · rw [nth_eq l (k - 1) (by omega), nth_eq l k hk, (List.pairwise_iff_getElem.1 ho) (k - 1) k (by omega) hk (by omega), Bool.or_true]
  · cases e : same2 eqI (nth l j).pattern (nth l k).pattern
    · rfl
    · have e2 := (same2_iff eqI eqI_iff _ _).1 e
      have := dp_idx hp (by omega) hk e2
      omega
theorem pw_of_asc {l : List Item} (ha : Asc (ltN Item.name) l) (hd : DN l) : l.Pairwise fun a b => lessB a.name b.name = true := by
  refine List.pairwise_iff_getElem.2 fun i j hi hj hij => ?_
  have h1 := (List.pairwise_iff_getElem.1 ha) i j hi hj hij
  have h2 := (List.pairwise_iff_getElem.1 hd) i j hi hj hij
  cases h : lessB l[i].name l[j].name
  · exact absurd (lessB_anti h h1) h2
  · rfl
theorem ok_perm {l m : List Item} (hp : l.Perm m) (hg : ∀ x ∈ m, GoodI x) (hn : DN m) (hq : DP m) (ha : Asc (ltN Item.name) l) (hl : m.length ≤ 60) : okItems l = true :=
  okItems_of (fun x hx => hg x (hp.mem_iff.1 hx)) (pw_of_asc ha (dn_perm hp.symm hn)) (dp_perm hp.symm hq) (by rw [hp.length_eq]; exact hl)
theorem find_uniq {f : Item → Bool} {l : List Item} {x : Item} (hx : x ∈ l) (hf : f x = true) (hu : ∀ y ∈ l, f y = true → y = x) : ∃ k : Nat, findI f l = (k : Int) ∧ k < l.length ∧ nth l k = x := by
  rcases findI_cases f l with h | ⟨k, h1, h2, h3, _⟩
  · have := findI_none' h x hx
    rw [hf] at this; exact absurd this (by decide)
  · exact ⟨k, h1, h2, hu _ (mem_nth h2) h3⟩
theorem dn_one {l : List Item} (h : DN l) {x y : Item} (hx : x ∈ l) (hy : y ∈ l) (e : x.name = y.name) : x = y := by
  obtain ⟨i, hi, rfl⟩ := List.getElem_of_mem hx
  obtain ⟨j, hj, rfl⟩ := List.getElem_of_mem hy
  rw [← nth_eq l i hi, ← nth_eq l j hj] at *
  rw [dn_idx h hi hj e]
theorem dp_one {l : List Item} (h : DP l) {x y : Item} (hx : x ∈ l) (hy : y ∈ l) (e : x.pattern = y.pattern) : x = y := by
  obtain ⟨i, hi, rfl⟩ := List.getElem_of_mem hx
  obtain ⟨j, hj, rfl⟩ := List.getElem_of_mem hy
  rw [← nth_eq l i hi, ← nth_eq l j hj] at *
  rw [dp_idx h hi hj e]
theorem named_law {l : List Item} (h : okItems l = true) {x : Item} (hx : x ∈ l) : patNamedCode l x.name = 0 ∧ patNamedL l x.name = x.pattern := by
  obtain ⟨k, h1, h2, h3⟩ := find_uniq (f := isNm x.name) hx ((isNm_iff _ _).2 rfl) (fun y hy e => dn_one (okItems_dn h) hy hx ((isNm_iff _ _).1 e))
  unfold patNamedCode patNamedL
  rw [h1, if_pos h, if_pos h, if_neg (by omega), if_neg (by omega), Int.toNat_natCast, h3]
  exact ⟨rfl, rfl⟩
theorem name_law {l : List Item} (h : okItems l = true) {x : Item} (hx : x ∈ l) {q : List Int} (hq : okPat q = true) (hc : canL q = x.pattern) : nameOfCode l q = 0 ∧ nameOfS l q = x.name := by
  obtain ⟨k, h1, h2, h3⟩ := find_uniq (f := isPt (canL q)) hx ((isPt_iff _ _).2 hc.symm) (fun y hy e => dp_one (okItems_dp h) hy hx (((isPt_iff _ _).1 e).trans hc))
  have hb : (okItems l && okPat q) = true := by rw [h, hq]; rfl
  unfold nameOfCode nameOfS nameOfK
  refine ⟨?_, ?_⟩
  · rw [h1, if_pos hb, if_neg (by omega)]
  · rw [h1, if_pos hb, if_neg (by omega), Int.toNat_natCast, h3]
theorem perm_erase {l : List Item} {k : Nat} (hk : k < l.length) : l.Perm (nth l k :: (l.take k ++ l.drop (k + 1))) := by
  refine List.Perm.trans ?_ List.perm_middle
  rw [nth_eq l k hk, ← List.drop_eq_getElem_cons hk, List.take_append_drop]
theorem add_facts {l : List Item} {s : ByteArray} {p : List Int} (hc : addItCode l s p = 0) : okItems l = true ∧ okPat p = true ∧ nameB (chars s) = true ∧ (∀ y ∈ l, y.name ≠ s) ∧ (∀ y ∈ l, y.pattern ≠ canL p) ∧ l.length ≤ 59 := by
  unfold addItCode at hc
  split at hc
  · rename_i h1
    split at hc
    · rename_i h2
      split at hc
      · rename_i h3
        split at hc
        · rename_i h4
          split at hc
          · rename_i h5
            split at hc
            · simp at hc
            · rename_i h6
              have := okItems_len h1
              exact ⟨h1, h2, h3, fun y hy e => (by have := findI_none' h4 y hy; rw [(isNm_iff _ _).2 e] at this; exact absurd this (by decide)), fun y hy e => (by have := findI_none' h5 y hy; rw [(isPt_iff _ _).2 e] at this; exact absurd this (by decide)), by omega⟩
          · simp at hc
        · simp at hc
      · simp at hc
    · simp at hc
  · simp at hc
theorem add_all {l : List Item} {s : ByteArray} {p : List Int} (hc : addItCode l s p = 0) : okItems (addItL l s p) = true ∧ (⟨s, canL p⟩ : Item) ∈ addItL l s p ∧ remCode (addItL l s p) s = 0 ∧ remL (addItL l s p) s = l := by
  obtain ⟨h1, h2, h3, h4, h5, h6⟩ := add_facts hc
  have hX : addItL l s p = insB (ltN Item.name) l ⟨s, canL p⟩ := by unfold addItL; rw [if_pos hc]
  have hp := insB_perm (ltN Item.name) l ⟨s, canL p⟩
  have ha := insB_asc (swo_ltN Item.name) (pw_asc Item.name (okItems_pw h1)) ⟨s, canL p⟩
  rw [hX]
  generalize insB (ltN Item.name) l ⟨s, canL p⟩ = X at *
  have hN : DN (⟨s, canL p⟩ :: l) := List.pairwise_cons.2 ⟨fun y hy e => h4 y hy e.symm, okItems_dn h1⟩
  have hP : DP (⟨s, canL p⟩ :: l) := List.pairwise_cons.2 ⟨fun y hy e => h5 y hy e.symm, okItems_dp h1⟩
  have hl1 := ok_in h2
  have hok : okItems X = true := ok_perm hp (fun x hx => by
    rcases List.mem_cons.1 hx with rfl | hx
    · exact ⟨h3, okPat_can h2, can_can p hl1.1⟩
    · exact okItems_good h1 x hx) hN hP ha (by simp; omega)
  have hm : (⟨s, canL p⟩ : Item) ∈ X := hp.mem_iff.2 List.mem_cons_self
  refine ⟨hok, hm, ?_⟩
  obtain ⟨k, e1, e2, e3⟩ := find_uniq (f := isNm s) hm ((isNm_iff _ _).2 rfl) (fun y hy e => dn_one (okItems_dn hok) hy hm ((isNm_iff _ _).1 e))
  unfold remCode remL
  rw [e1, if_pos hok, if_pos hok, if_neg (by omega), if_neg (by omega), Int.toNat_natCast]
  refine ⟨rfl, ?_⟩
  have q := perm_erase e2
  rw [e3] at q
  have q2 : (X.take k ++ X.drop (k + 1)).Perm l := (List.perm_cons _).1 (q.symm.trans hp)
  refine names_one Item.name q2 (List.Pairwise.sublist ?_ ha) (fun a ha b hb e => dn_one (okItems_dn h1) ha hb e) (List.Perm.refl l) (pw_asc Item.name (okItems_pw h1))
  have hs : (X.take k ++ X.drop (k + 1)).Sublist (X.take k ++ X.drop k) := (List.Sublist.refl _).append (List.drop_sublist_drop_left X (by omega))
  rw [List.take_append_drop] at hs
  exact hs
theorem merge_facts {a b : List Item} (hc : mergeCode a b = 0) : okItems a = true ∧ okItems b = true ∧ okMerge a b = true ∧ a.length + (addF a b).length ≤ 60 := by
  unfold mergeCode at hc
  split at hc
  · rename_i h1
    split at hc
    · rename_i h2
      split at hc
      · rename_i h3
        split at hc
        · simp at hc
        · exact ⟨h1, h2, h3, by omega⟩
      · simp at hc
    · simp at hc
  · simp at hc
theorem merge_mem {a b : List Item} (ha : okItems a = true) (_hb : okItems b = true) (hm : okMerge a b = true) (z : Item) : z ∈ addF a b ++ a ↔ z ∈ a ∨ z ∈ b := by
  rw [List.mem_append]
  constructor
  · rintro (h | h)
    · exact .inr (List.mem_filter.1 h).1
    · exact .inl h
  · rintro (h | h)
    · exact .inr h
    · have h1 := List.all_eq_true.1 hm z h
      unfold sameTo at h1
      rcases (find_same (okItems_dn ha) (okItems_dp ha) z).1 (of_decide_eq_true h1) with ⟨h2, _⟩ | ⟨y, hy, e1, e2⟩
      · refine .inl (List.mem_filter.2 ⟨h, ?_⟩)
        unfold newTo
        refine decide_eq_true ((findI_neg_iff _ _).2 fun y hy => ?_)
        cases hc : isNm z.name y
        · rfl
        · exact absurd ((isNm_iff _ _).1 hc) (h2 y hy)
      · have : y = z := by cases y; cases z; simp_all
        exact .inr (this ▸ hy)
theorem dn_nodup {l : List Item} (h : DN l) : l.Nodup := List.Pairwise.imp (fun h e => h (by rw [e])) h
theorem merge_swap {a b : List Item} (hc : mergeCode a b = 0) : mergeCode b a = 0 ∧ mergeL b a = mergeL a b := by
  obtain ⟨ha, hb, hm, hl⟩ := merge_facts hc
  have hmb : okMerge b a = true := by
    unfold okMerge
    rw [List.all_eq_true]
    intro x hx
    unfold sameTo
    refine decide_eq_true ((find_same (okItems_dn hb) (okItems_dp hb) x).2 ?_)
    by_cases h : ∃ y ∈ b, y.name = x.name ∨ y.pattern = x.pattern
    · obtain ⟨y, hy, e⟩ := h
      have h1 := List.all_eq_true.1 hm y hy
      unfold sameTo at h1
      rcases (find_same (okItems_dn ha) (okItems_dp ha) y).1 (of_decide_eq_true h1) with ⟨h2, h3⟩ | ⟨z, hz, e1, e2⟩
      · rcases e with e | e
        · exact absurd e.symm (h2 x hx)
        · exact absurd e.symm (h3 x hx)
      · have : z = x := by
          rcases e with e | e
          · exact dn_one (okItems_dn ha) hz hx (e1.trans e)
          · exact dp_one (okItems_dp ha) hz hx (e2.trans e)
        subst this
        exact .inr ⟨y, hy, e1.symm, e2.symm⟩
    · exact .inl ⟨fun y hy e => h ⟨y, hy, .inl e⟩, fun y hy e => h ⟨y, hy, .inr e⟩⟩
  have hd1 := dn_add (okItems_dn ha) (okItems_dn hb) (List.Sublist.refl b)
  have hd2 := dn_add (okItems_dn hb) (okItems_dn ha) (List.Sublist.refl a)
  have hperm : (addF b a ++ b).Perm (addF a b ++ a) := (List.perm_ext_iff_of_nodup (dn_nodup hd2) (dn_nodup hd1)).2 fun z => by
    rw [merge_mem ha hb hm, merge_mem hb ha hmb, or_comm]
  have hlen := hperm.length_eq
  rw [List.length_append, List.length_append] at hlen
  have hc2 : mergeCode b a = 0 := by
    unfold mergeCode
    rw [if_pos hb, if_pos ha, if_pos hmb, if_neg (by omega)]
  refine ⟨hc2, ?_⟩
  unfold mergeL
  rw [if_pos hc, if_pos hc2]
  refine merge_one ha hb ((insAll_perm _ _ _).trans (hperm.trans List.perm_append_comm)) (insAll_asc (swo_ltN _) _ _ (pw_asc Item.name (okItems_pw hb)))
theorem merge_all {a b : List Item} (hc : mergeCode a b = 0) : okItems (mergeL a b) = true ∧ ∀ x ∈ b, x ∈ mergeL a b := by
  obtain ⟨ha, hb, hm, hl⟩ := merge_facts hc
  have hX : mergeL a b = insAll (ltN Item.name) (addF a b) a := by unfold mergeL; rw [if_pos hc]
  have hp := insAll_perm (ltN Item.name) (addF a b) a
  rw [hX]
  refine ⟨ok_perm hp (fun x hx => ?_) (dn_add (okItems_dn ha) (okItems_dn hb) (List.Sublist.refl b)) (dp_add (okItems_dp ha) (okItems_dp hb) (List.Sublist.refl b) (fun x hx => List.all_eq_true.1 hm x hx)) (insAll_asc (swo_ltN _) _ _ (pw_asc Item.name (okItems_pw ha))) (by rw [List.length_append]; omega), fun x hx => hp.mem_iff.2 ((merge_mem ha hb hm x).2 (.inr hx))⟩
  rcases (merge_mem ha hb hm x).1 hx with h | h
  · exact okItems_good ha x h
  · exact okItems_good hb x h
end Go.Proofs.YtcgbdhbdlnimhaaGreat

/- Merge: MergeItems, by both packages. -/
namespace Go.Proofs.YtcgbdhbdlnimhaaGreat
open Go.ChangeShapes Go.WideShapes Go.ChangeAt Go.RowKit

set_option maxRecDepth 100000 in
set_option maxHeartbeats 4000000 in
theorem sMergeItems_c (v u : Value) (l m : List Item) (w : World) (hv : ItemsAt w v l) (hu : ItemsAt w u m) : Calls Tryz.prog 25 #[v, u] w (GivesItemsC (mergeL l m) (mergeCode l m) w) := by
  have HV := Lib.hid hv
  have HU := Lib.hid hu
  have K1 := Lib.hid (l22Ok_c v l w hv)
  have K2 := Lib.hid (fun W x => l22Ok_c u m W x)
  have HC : Hid (mergeCode l m = if okItems l = true then (if okItems m = true then (if okMerge l m = true then (if 60 < l.length + (addF l m).length then 5 else 0) else 4) else 1) else 1) := Lib.hid rfl
  obtain ⟨a, n, cap, rfl, hn, hl, hm, hc⟩ := hv
  have Hn := Lib.hid hn; clear hn hc
  obtain ⟨a2, n2, cap2, rfl, hn2, hl2, hm2, hc2⟩ := hu
  have Hc2 := Lib.hid hc2; clear hc2
  have Hn2 := Lib.hid hn2; clear hn2
  obtain ⟨b1, hE1⟩ : ∃ b, okItems l = b := ⟨_, rfl⟩
  obtain ⟨b2, hE2⟩ : ∃ b, okItems m = b := ⟨_, rfl⟩
  rw [hE1] at K1 HC
  rw [hE2] at K2 HC
  have HE1 := Lib.hid hE1
  have HE2 := Lib.hid hE2
  clear hE1 hE2
  go_enter Tryz.func25, Tryz.ntmps25
  go_wp2_with fail
  refine K1.out.mono ?_
  rintro e w1 ⟨rfl, hb1⟩
  clear K1
  cases b1
  · have HC1 : Hid (mergeCode l m = 1) := Lib.hid HC.out
    clear HC K2
    go_wp2
    go_ret2
    exact GivesItemsC.none (mergeL_nil HC1.out (by decide)) HC1.out hb1
  have hn60 : n ≤ 60 := by rw [Hn.out]; exact okItems_len HE1.out
  go_wp2_with fail
  refine (K2.out _ (HU.out.below hb1)).mono ?_
  rintro e w2 ⟨rfl, hb2⟩
  clear K2
  have hb := bthen hb1 hb2
  clear hb1 hb2
  cases b2
  · have HC1 : Hid (mergeCode l m = 1) := Lib.hid HC.out
    clear HC
    go_wp2
    go_ret2
    exact GivesItemsC.none (mergeL_nil HC1.out (by decide)) HC1.out hb
  have hn260 : n2 ≤ 60 := by rw [Hn2.out]; exact okItems_len HE2.out
  have HC2 : Hid (mergeCode l m = if okMerge l m = true then (if 60 < l.length + (addF l m).length then 5 else 0) else 4) := Lib.hid HC.out
  clear HC
  go_wp2
  go_loopw [6, 7] (fun s i wr => ∃ (k : Nat) (a1 : Option Addr) (n1 c1 : Nat), s = .slice a1 n1 c1 ∧ i = .int .i64 k ∧ k ≤ n2 ∧ Hid (ItemsAt wr (.slice a1 n1 c1) (merged l m k)) ∧ Hid (∀ j, j < k → sameTo l (nth m j) = true) ∧ Below w.heap.size w wr) (fun _ i _ => n2 - (intOf i).toNat)
  case atStart => exact ⟨0, a, n, cap, rfl, rfl, Nat.zero_le _, Lib.hid (HV.out.below hb), Lib.hid (fun j hj => absurd hj (Nat.not_lt_zero _)), hb⟩
  case round =>
    obtain ⟨k, a1, n1, c1, rfl, rfl, hk, HI, HM, hbr⟩ := hrel
    have hn1 : n1 = (merged l m k).length := by
      obtain ⟨_, _, _, e, e2, _⟩ := HI.out
      injection e with _ e3 _; rw [e3, e2]
    have hlen1 : n1 ≤ 120 := by rw [hn1]; exact (merged_ok HE1.out HE2.out k).1
    have Hn1 := Lib.hid hn1
    clear hn1
    by_cases hlt : k < n2
    · have Hkl : Hid (k < m.length) := Lib.hid (by rw [← Hn2.out]; exact hlt)
      obtain ⟨b, o, pa, pn, pc, rfl, hbs, hsz, hp, e0, e1⟩ := item_cells Hc2.out k Hkl.out
      have HP := Lib.hid hp; clear hp
      have Hsz := Lib.hid hsz
      have E0 : Hid (∀ W, Below w.heap.size w W → W.cell? ⟨b, o + k * 2, none⟩ = some (.string (nth m k).name)) := Lib.hid (fun W h => cell_then hbs e0 h)
      have E1 : Hid (∀ W, Below w.heap.size w W → W.cell? ⟨b, o + k * 2 + 1, none⟩ = some (.slice pa pn pc)) := Lib.hid (fun W h => cell_then hbs e1 h)
      clear e0 e1 hsz
      have HX := Lib.hid (merge_step HE1.out HE2.out Hkl.out HM.out)
      have KF := Lib.hid (fun W x => l22Find_c (.slice a1 n1 c1) (merged l m k) (nth m k).name W x)
      have KL := Lib.hid (fun W x y => l22Like_c (.slice a1 n1 c1) (.slice pa pn pc) (merged l m k) (nth m k).pattern W x y)
      have KP := Lib.hid (fun W x y => l22Put_c (.slice a1 n1 c1) pa pn pc (merged l m k) (nth m k) W x y Hsz.out (by rw [← Hn1.out]; omega))
      have hge := findI_cases (isNm (nth m k).name) (merged l m k)
      have HG : Hid (findI (isNm (nth m k).name) (merged l m k) = -1 ∨ 0 ≤ findI (isNm (nth m k).name) (merged l m k)) := Lib.hid (by rcases hge with h | ⟨j, h, _⟩; exact .inl h; exact .inr (by omega))
      clear hge
      have q0 := E0.out _ hbr
      go_wp2_with fail
      refine (KF.out _ HI.out).mono ?_
      rintro e w4 ⟨rfl, hb4⟩
      clear q0 KF
      have hb' := bthen hbr hb4
      have q1 := E1.out _ hb'
      go_wp2_with fail
      refine (KL.out _ (HI.out.below hb4) (HP.out.below hb')).mono ?_
      rintro e w5 ⟨rfl, hb5⟩
      clear q1 KL
      have hb2 := bthen hb' hb5
      have HI5 := Lib.hid (HI.out.below (bthen hb4 hb5))
      generalize findI (isNm (nth m k).name) (merged l m k) = f at *
      generalize findI (isPt (nth m k).pattern) (merged l m k) = g at *
      clear hb' hb4 hb5 HI
      by_cases hfg : f = g
      · have HS : Hid (sameTo l (nth m k) = true) := Lib.hid (HX.out.1.1 hfg)
        have HM2 : Hid (∀ j, j < k + 1 → sameTo l (nth m j) = true) := Lib.hid (fun j hj => by
          rcases Nat.lt_or_ge j k with h | h
          · exact HM.out j h
          · obtain rfl : j = k := by omega
            exact HS.out)
        have HN : Hid (f = -1 ↔ newTo l (nth m k) = true) := Lib.hid HX.out.2
        clear HX HM HS
        subst hfg
        rcases HG.out with hf | hf
        · have HIn : Hid (merged l m (k + 1) = insB (ltN Item.name) (merged l m k) (nth m k)) := Lib.hid (merged_new Hkl.out (HN.out.1 hf))
          subst hf
          clear HN HG
          have q0 := E0.out _ hb2
          have q1 := E1.out _ hb2
          go_wp2_with fail
          refine (KP.out _ HI5.out (HP.out.below hb2)).mono ?_
          rintro e w6 ⟨a6, n6, c6, rfl, hi6, hb6⟩
          have HI6 : Hid (ItemsAt w6 (.slice a6 n6 c6) (merged l m (k + 1))) := Lib.hid (by rw [HIn.out]; exact hi6)
          clear hi6 q0 q1 KP HIn
          go_wp2
          exact ⟨⟨k + 1, a6, n6, c6, rfl, by go_num, hlt, HI6, HM2, bthen hb2 hb6⟩, by simp [intOf]; omega⟩
        · have HI6 : Hid (ItemsAt w5 (.slice a1 n1 c1) (merged l m (k + 1))) := Lib.hid (by
            rw [merged_old Hkl.out (by
              cases hc : newTo l (nth m k)
              · rfl
              · have := HN.out.2 hc; omega)]
            exact HI5.out)
          have hd : decide (f < 0) = false := decide_eq_false (by omega)
          clear HN HG KP
          go_wp2
          exact ⟨⟨k + 1, a1, n1, c1, rfl, by go_num, hlt, HI6, HM2, hb2⟩, by simp [intOf]; omega⟩
      · have HC1 : Hid (mergeCode l m = 4) := Lib.hid (by
          rw [HC2.out, if_neg (by rw [okMerge_not Hkl.out (by
            cases hc : sameTo l (nth m k)
            · rfl
            · exact absurd (HX.out.1.2 hc) hfg)]; decide)])
        have hne : (f != g) = true := by simpa using hfg
        clear HX HG KP HC2 hfg
        go_wp2
        go_ret2
        exact GivesItemsC.none (mergeL_nil HC1.out (by decide)) HC1.out hb2
    · obtain rfl : k = n2 := by omega
      have HO : Hid (okMerge l m = true) := Lib.hid (okMerge_all (by rw [← Hn2.out]; exact HM.out))
      have hme : merged l m k = insAll (ltN Item.name) (addF l m) l := by unfold merged; rw [List.take_of_length_le (by rw [← Hn2.out]; exact Nat.le_refl _)]
      have hml : (merged l m k).length = l.length + (addF l m).length := by rw [merged_len, List.take_of_length_le (by rw [← Hn2.out]; exact Nat.le_refl _)]
      have HC3 : Hid (mergeCode l m = if 60 < n1 then 5 else 0) := Lib.hid (by rw [HC2.out, if_pos HO.out, Hn1.out, hml])
      have Hme := Lib.hid hme
      clear hme hml HC2 HM
      by_cases h60 : 60 < n1
      · have HC1 : Hid (mergeCode l m = 5) := Lib.hid (by rw [HC3.out, if_pos h60])
        clear HC3 HI
        go_wp2
        go_ret2
        exact GivesItemsC.none (mergeL_nil HC1.out (by decide)) HC1.out hbr
      · have HC1 : Hid (mergeCode l m = 0) := Lib.hid (by rw [HC3.out, if_neg h60])
        have HA : Hid (merged l m k = mergeL l m) := Lib.hid (by rw [Hme.out]; unfold mergeL; rw [if_pos HC1.out])
        have KO := Lib.hid (l22Own_c _ _ wr HI.out (by have := (merged_ok HE1.out HE2.out k).1; omega) (merged_ok HE1.out HE2.out k).2)
        clear HC3 HI
        go_wp2_with fail
        refine KO.out.mono ?_
        rintro e w8 ⟨a8, n8, c8, rfl, o8, hb8⟩
        have HO8 : Hid (OwnItems w8 w.heap.size (.slice a8 n8 c8) (mergeL l m)) := Lib.hid (by rw [← HA.out]; exact OwnNest.mono o8 hbr.size)
        clear o8 KO
        go_wp2
        go_ret2
        exact GivesItemsC.mk HC1.out HO8.out (bthen hbr hb8)
set_option maxRecDepth 100000 in
set_option maxHeartbeats 4000000 in
theorem iMergeItems_c (v u : Value) (l m : List Item) (w : World) (hv : ItemsAt w v l) (hu : ItemsAt w u m) : Calls Tryz.prog 24 #[v, u] w (GivesItemsC (mergeL l m) (mergeCode l m) w) := by
  have HV := Lib.hid hv
  have HU := Lib.hid hu
  have K1 := Lib.hid (iValidItems_c v l w hv)
  have K2 := Lib.hid (fun W x => iValidItems_c u m W x)
  have HC : Hid (mergeCode l m = if okItems l = true then (if okItems m = true then (if okMerge l m = true then (if 60 < l.length + (addF l m).length then 5 else 0) else 4) else 1) else 1) := Lib.hid rfl
  obtain ⟨a, n, cap, rfl, hn, hl, hm, hc⟩ := hv
  have Hn := Lib.hid hn; clear hn hc
  obtain ⟨a2, n2, cap2, rfl, hn2, hl2, hm2, hc2⟩ := hu
  have Hc2 := Lib.hid hc2; clear hc2
  have Hn2 := Lib.hid hn2; clear hn2
  obtain ⟨b1, hE1⟩ : ∃ b, okItems l = b := ⟨_, rfl⟩
  obtain ⟨b2, hE2⟩ : ∃ b, okItems m = b := ⟨_, rfl⟩
  rw [hE1] at K1 HC
  rw [hE2] at K2 HC
  have HE1 := Lib.hid hE1
  have HE2 := Lib.hid hE2
  clear hE1 hE2
  go_enter Tryz.func24, Tryz.ntmps24
  go_wp2_with fail
  refine K1.out.mono ?_
  rintro e w1 ⟨rfl, hb1⟩
  clear K1
  cases b1
  · have HC1 : Hid (mergeCode l m = 1) := Lib.hid HC.out
    clear HC K2
    go_wp2
    go_ret2
    exact GivesItemsC.none (mergeL_nil HC1.out (by decide)) HC1.out hb1
  have hn60 : n ≤ 60 := by rw [Hn.out]; exact okItems_len HE1.out
  go_wp2_with fail
  refine (K2.out _ (HU.out.below hb1)).mono ?_
  rintro e w2 ⟨rfl, hb2⟩
  clear K2
  have hb := bthen hb1 hb2
  clear hb1 hb2
  cases b2
  · have HC1 : Hid (mergeCode l m = 1) := Lib.hid HC.out
    clear HC
    go_wp2
    go_ret2
    exact GivesItemsC.none (mergeL_nil HC1.out (by decide)) HC1.out hb
  have hn260 : n2 ≤ 60 := by rw [Hn2.out]; exact okItems_len HE2.out
  have HC2 : Hid (mergeCode l m = if okMerge l m = true then (if 60 < l.length + (addF l m).length then 5 else 0) else 4) := Lib.hid HC.out
  clear HC
  go_wp2_with fail
  refine (copyItems_c _ l w2 (HV.out.below hb) (by rw [← Hn.out]; omega) (fun x hx => by have := (okPat_len (okItems_pat HE1.out x hx)).2; omega)).mono ?_
  rintro e w3 ⟨a3, n3, c3, rfl, o3, hb3⟩
  have HO3 := Lib.hid o3
  clear o3
  go_wp2
  go_loopw [6, 23] (fun s i wr => ∃ (k : Nat) (a1 : Option Addr) (n1 c1 : Nat), s = .slice a1 n1 c1 ∧ i = .int .i64 k ∧ k ≤ n2 ∧ Hid (OwnItems wr w2.heap.size (.slice a1 n1 c1) (l ++ addF l (m.take k))) ∧ Hid (∀ j, j < k → sameTo l (nth m j) = true) ∧ Below w2.heap.size w2 wr) (fun _ i _ => n2 - (intOf i).toNat)
  case atStart => exact ⟨0, a3, n3, c3, rfl, rfl, Nat.zero_le _, Lib.hid (by have := HO3.out; simpa [addF] using this), Lib.hid (fun j hj => absurd hj (Nat.not_lt_zero _)), hb3⟩
  case round =>
    obtain ⟨k, a1, n1, c1, rfl, rfl, hk, HO, HM, hb2⟩ := hrel
    have hbr := bthen hb hb2
    have hn1 : n1 = (l ++ addF l (m.take k)).length := by
      obtain ⟨_, _, _, e, e2, _⟩ := OwnItems.at HO.out
      injection e with _ e3 _; rw [e3, e2]
    have hlen1 : n1 ≤ 120 := by
      rw [hn1, List.length_append, ← merged_len]; exact (merged_ok HE1.out HE2.out k).1
    have Hn1 := Lib.hid hn1
    clear hn1
    by_cases hlt : k < n2
    · have Hkl : Hid (k < m.length) := Lib.hid (by rw [← Hn2.out]; exact hlt)
      obtain ⟨b, o, pa, pn, pc, rfl, hbs, hsz, hp, e0, e1⟩ := item_cells (Hc2.out.below hbr) k Hkl.out
      have HP := Lib.hid hp; clear hp
      have Hsz := Lib.hid hsz; clear hsz
      have HX : Hid (sameTo l (nth m k) = decide (findI (isNm (nth m k).name) l = findI (isPt (nth m k).pattern) l) ∧ newTo l (nth m k) = decide (findI (isNm (nth m k).name) l = -1)) := Lib.hid ⟨rfl, rfl⟩
      have HG : Hid (findI (isNm (nth m k).name) l = -1 ∨ 0 ≤ findI (isNm (nth m k).name) l) := Lib.hid (by rcases findI_cases (isNm (nth m k).name) l with h | ⟨j, h, _⟩; exact .inl h; exact .inr (by omega))
      have KF := Lib.hid (fun W x => itemNamed_c (.slice a n cap) l (nth m k).name W x)
      have KL := Lib.hid (fun W x y => itemWith_c (.slice a n cap) (.slice pa pn pc) l (nth m k).pattern W x y)
      have K1 := Lib.hid (fun W x => copyNumbers_c (.slice pa pn pc) (nth m k).pattern W x (by have := (okPat_len (okItems_pat HE2.out _ (mem_nth Hkl.out))).2; omega))
      obtain ⟨ps, hps', hN⟩ := InNest.of HO.out
      have hlen : ps.length = n1 := by rw [Hn1.out, ← hps']; simp
      have Hps := Lib.hid hps'; clear hps'
      have HN := Lib.hid hN; clear hN
      have Hlen := Lib.hid hlen; clear hlen
      generalize findI (isNm (nth m k).name) l = f at *
      generalize findI (isPt (nth m k).pattern) l = g at *
      go_wp2
      generalize hGw : World.alloc wr (.cells #[.string (nth m k).name, .slice pa pn pc] 62) = wx at *
      have hbx : Below wr.heap.size wr wx := by rw [← hGw]; go_grown
      have HB : Hid (BoxIs wx wr.heap.size [.string (nth m k).name, .slice pa pn pc]) := Lib.hid (by rw [← hGw]; exact BoxIs.new _ _ _)
      clear hGw e0 e1
      have hbw := bthen hbr hbx
      have Q1 := Lib.hid (fun W (x : Below wx.heap.size wx W) => KF.out W (HV.out.below (bthen hbw x)))
      have Q2 := Lib.hid (fun W (x : Below wx.heap.size wx W) => KL.out W (HV.out.below (bthen hbw x)) (HP.out.below (bthen hbx x)))
      have t0 := cell_regrown (HB.out.2.1 0 : wx.cell? ⟨wr.heap.size, 0, none⟩ = some (.string (nth m k).name))
      have t1 := cell_regrown (HB.out.2.1 1 : wx.cell? ⟨wr.heap.size, 1, none⟩ = some (.slice pa pn pc))
      clear KF KL
      refine wp_region_quiet_below (by kernel_rfl) (by kernel_rfl) ?_
      repeat (first | go_big_quiet_step (first | with_reducible exact Calls.regrown_of (Q1.out _ (below_regrown _ _ _)) | with_reducible exact Calls.regrown_of (Q2.out _ (below_regrown _ _ _))) | quiet_step (first | with_reducible exact Calls.regrown_of (Q1.out _ (below_regrown _ _ _)) | with_reducible exact Calls.regrown_of (Q2.out _ (below_regrown _ _ _))))
      refine wpQuiet_nil ?_
      intro _ hw'
      obtain ⟨⟨dq, osq⟩, hw''⟩ := hw'
      subst hw''
      have hbq := below_regrown wx dq osq
      generalize Go.Sort.grow (redrawn wx dq) osq = wq at *
      clear t0 t1 Q1 Q2
      have hbq2 := bthen (bthen hb2 hbx) hbq
      have hbqw := bthen hb hbq2
      by_cases hfg : f = g
      · have hS : sameTo l (nth m k) = true := by rw [HX.out.1]; exact decide_eq_true hfg
        have HM2 : Hid (∀ j, j < k + 1 → sameTo l (nth m j) = true) := Lib.hid (fun j hj => by
          rcases Nat.lt_or_ge j k with h | h
          · exact HM.out j h
          · obtain rfl : j = k := by omega
            exact hS)
        have HNw : Hid (newTo l (nth m k) = decide (f = -1)) := Lib.hid HX.out.2
        clear HX HM hS
        subst hfg
        rcases HG.out with hf | hf
        · have HIn : Hid (l ++ addF l (m.take (k + 1)) = (l ++ addF l (m.take k)) ++ [nth m k]) := Lib.hid (by rw [addF_step Hkl.out, if_pos (by rw [HNw.out]; exact decide_eq_true hf), List.append_assoc])
          subst hf
          clear HNw HG
          have HNq := Lib.hid (HN.out.below (bthen hbx hbq))
          have HPq := Lib.hid (HP.out.below (bthen hbx hbq))
          have HBq := Lib.hid (HB.out.below hbq)
          go_wp2
          refine wp_region_held_drew (S := fun w' => Below w2.heap.size w2 w' ∧ w'.cell? ⟨wr.heap.size, 0, none⟩ = some (.string (nth m k).name) ∧ w'.cell? ⟨wr.heap.size, 1, none⟩ = some (.slice pa pn pc)) (by kernel_rfl) (by exact ⟨hbq2.drew, HBq.out.2.1 0, HBq.out.2.1 1⟩) (fun hHeld => ?_)
          refine wpAnyH_take (i := 0) (oi := ⟨_, _, _, _, _, _⟩) (v := ?_) rfl (by kernel_rfl) (by kernel_rfl) (by kernel_rfl) (fun _ _ _ h => h) (Or.inl ⟨by rfl, ?_⟩) (by assumption) ?_; rotate_left; (focus (intro w hSw; (try dsimp only at hSw); go_simp; try with_reducible rfl)); (try simp only [Act.put, List.setIfInBounds_toArray, List.set_cons_zero, List.set_cons_succ])
          refine wpAnyH_take (i := 1) (oi := ⟨_, _, _, _, _, _⟩) (v := ?_) rfl (by kernel_rfl) (by kernel_rfl) (by kernel_rfl) (fun _ _ _ h => h) (Or.inl ⟨by rfl, ?_⟩) (by assumption) ?_; rotate_left; (focus (intro w hSw; (try dsimp only at hSw); go_simp; try with_reducible rfl)); (try simp only [Act.put, List.setIfInBounds_toArray, List.set_cons_zero, List.set_cons_succ])
          refine wpAnyH_take (i := 2) (oi := ⟨_, _, _, _, _, _⟩) (v := ?_) rfl (by kernel_rfl) (by kernel_rfl) (by kernel_rfl) (fun _ _ _ h => h) (Or.inl ⟨by rfl, ?_⟩) (by assumption) ?_; rotate_left; (focus (intro w hSw; (try dsimp only at hSw); obtain ⟨_, t0, t1⟩ := hSw; go_simp; try with_reducible rfl)); (try simp only [Act.put, List.setIfInBounds_toArray, List.set_cons_zero, List.set_cons_succ])
          refine wpAnyH_take (i := 3) (oi := ⟨_, _, _, _, _, _⟩) (v := ?_) rfl (by kernel_rfl) (by kernel_rfl) (by kernel_rfl) (fun _ _ _ h => h) (Or.inl ⟨by rfl, ?_⟩) (by assumption) ?_; rotate_left; (focus (intro w hSw; (try dsimp only at hSw); go_simp; try with_reducible rfl)); (try simp only [Act.put, List.setIfInBounds_toArray, List.set_cons_zero, List.set_cons_succ])
          refine wpAnyH_take (i := 4) (oi := ⟨_, _, _, _, _, _⟩) (v := ?_) rfl (by kernel_rfl) (by kernel_rfl) (by kernel_rfl) (fun _ _ _ h => h) (Or.inl ⟨by rfl, ?_⟩) (by assumption) ?_; rotate_left; (focus (intro w hSw; (try dsimp only at hSw); obtain ⟨_, t0, t1⟩ := hSw; go_simp; try with_reducible rfl)); (try simp only [Act.put, List.setIfInBounds_toArray, List.set_cons_zero, List.set_cons_succ])
          refine wpAnyH_ready (rs := [5]) (by kernel_rfl) (by simp) ?_
          refine AllReadyH.cons (o := ⟨_, _, _, _, _, _⟩) rfl (fun K hK => ?_) AllReadyH.nil
          go_simp
          go_at_call 54; (with_reducible refine (K1.out _ (HPq.out.below (Below.refl _ _).drew)).mono ?_); rintro e x1 ⟨a5, n5, c5, rfl, o1, d1⟩; have hd1 := below_of_drew d1; have HI : Hid (InInts x1 wq.heap.size x1.heap.size (.slice a5 n5 c5) (nth m k).pattern) := Lib.hid (InInts.of o1); have HN1 := Lib.hid (HNq.out.below hd1); have hS' : Below w2.heap.size w2 x1 ∧ x1.cell? ⟨wr.heap.size, 0, none⟩ = some (.string (nth m k).name) ∧ x1.cell? ⟨wr.heap.size, 1, none⟩ = some (.slice pa pn pc) := ⟨bthen hHeld.1 d1, (HBq.out.below hd1).2.1 0, (HBq.out.below hd1).2.1 1⟩; clear o1 d1
          refine hK.out _ _ (by exact hS') (fun hHeld' => ?_)
          clear hHeld hK K
          have hHeld := hHeld'
          clear hHeld'
          try simp only [Act.put, List.setIfInBounds_toArray, List.set_cons_zero, List.set_cons_succ]
          refine wpAnyH_take (i := 6) (oi := ⟨_, _, _, _, _, _⟩) (v := ?_) rfl (by kernel_rfl) (by kernel_rfl) (by kernel_rfl) (fun _ _ _ h => h) (Or.inl ⟨by rfl, ?_⟩) (by assumption) ?_; rotate_left; (focus (intro w hSw; (try dsimp only at hSw); go_simp; try with_reducible rfl)); (try simp only [Act.put, List.setIfInBounds_toArray, List.set_cons_zero, List.set_cons_succ])
          refine wpAnyH_ready (rs := [7]) (by kernel_rfl) (by simp) ?_
          refine AllReadyH.cons (o := ⟨_, _, _, _, _, _⟩) rfl (fun K hK => ?_) AllReadyH.nil
          go_simp
          refine hK.out _ _ (by exact ⟨hHeld.1.alloc hHeld.1.size _, cell_alloc hHeld.2.1 _, cell_alloc hHeld.2.2 _⟩) (fun hHeld' => ?_)
          clear hHeld hK K
          have hHeld := hHeld'
          clear hHeld'
          try simp only [Act.put, List.setIfInBounds_toArray, List.set_cons_zero, List.set_cons_succ]
          refine wpAnyH_ready (rs := [8]) (by kernel_rfl) (by simp) ?_
          refine AllReadyH.cons (o := ⟨_, _, _, _, _, _⟩) rfl (fun K hK => ?_) AllReadyH.nil
          refine step_app_items rfl _ _ rfl w2.heap.size _ ps.length _ rfl (HN1.out.below (go_below_alloc _ _)).row.1 _ 1 1 [.string (nth m k).name, .slice a5 n5 c5] rfl (item_new _ _ _ _) (by intro u hu; simp at hu; rcases hu with rfl | rfl <;> rfl) (by have := Hlen.out; omega) (by have := hS'.1.size; simp; omega) ?_; intro a6 n6 c6 w6 ho6 hg6 hl6; have hS' : Below w2.heap.size w2 w6 ∧ w6.cell? ⟨wr.heap.size, 0, none⟩ = some (.string (nth m k).name) ∧ w6.cell? ⟨wr.heap.size, 1, none⟩ = some (.slice pa pn pc) := ⟨hHeld.1.grown hg6 hHeld.1.size (fun g hg => (HNq.out.row.1.lt g hg).1), cell_grown hHeld.2.1 hg6 (fun e => Nat.lt_irrefl _ (HN.out.row.1.lt _ e).2), cell_grown hHeld.2.2 hg6 (fun e => Nat.lt_irrefl _ (HN.out.row.1.lt _ e).2)⟩
          refine hK.out _ _ (by exact hS') (fun hHeld' => ?_)
          clear hHeld hK K
          have hHeld := hHeld'
          clear hHeld'
          try simp only [Act.put, List.setIfInBounds_toArray, List.set_cons_zero, List.set_cons_succ]
          refine wpAnyH_take (i := 9) (oi := ⟨_, _, _, _, _, _⟩) (v := ?_) rfl (by kernel_rfl) (by kernel_rfl) (by kernel_rfl) (fun _ _ _ h => h) (Or.inl ⟨by rfl, ?_⟩) (by assumption) ?_; rotate_left; (focus (intro w hSw; (try dsimp only at hSw); go_simp; try with_reducible rfl)); (try simp only [Act.put, List.setIfInBounds_toArray, List.set_cons_zero, List.set_cons_succ])
          refine wpAnyH_done (by kernel_rfl) ?_ _
          have HO6 : Hid (OwnItems w6 w2.heap.size (.slice a6 n6 c6) (l ++ addF l (m.take (k + 1)))) := Lib.hid (by
            have h := nest_snoc (x := nth m k) (hi := wq.heap.size) (NestIn.more (HN1.out.below (go_below_alloc _ _)) (by have := hbx.size; have := hbq.size; omega)) (HI.out.below (go_below_alloc _ _)) (hbq2.size) ⟨_, _, _, rfl⟩ Hsz.out (by have := hd1.size; simp; omega) ho6 hg6 hl6
            rw [Hps.out] at h
            rw [HIn.out]
            exact h)
          clear ho6 hg6 hl6
          have hb7 := hHeld.1
          clear hHeld
          go_wp2
          exact ⟨⟨k + 1, a6, n6, c6, rfl, by go_num, hlt, HO6, HM2, hb7⟩, by simp [intOf]; omega⟩
        · have HO6 : Hid (OwnItems wq w2.heap.size (.slice a1 n1 c1) (l ++ addF l (m.take (k + 1)))) := Lib.hid (by
            rw [addF_step Hkl.out, if_neg (by rw [HNw.out, decide_eq_false (by omega)]; decide), List.append_nil]
            exact OwnNest.below HO.out (bthen hbx hbq))
          have hd : decide (f < 0) = false := decide_eq_false (by omega)
          clear HNw HG K1 HN
          go_wp2
          exact ⟨⟨k + 1, a1, n1, c1, rfl, by go_num, hlt, HO6, HM2, hbq2⟩, by simp [intOf]; omega⟩
      · have HC1 : Hid (mergeCode l m = 4) := Lib.hid (by
          rw [HC2.out, if_neg (by rw [okMerge_not Hkl.out (by rw [HX.out.1]; exact decide_eq_false hfg)]; decide)])
        have hne : (f != g) = true := by simpa using hfg
        clear HX HG K1 HC2 hfg HN
        go_wp2
        go_ret2
        exact GivesItemsC.none (mergeL_nil HC1.out (by decide)) HC1.out hbqw
    · obtain rfl : k = n2 := by omega
      have HOk : Hid (okMerge l m = true) := Lib.hid (okMerge_all (by rw [← Hn2.out]; exact HM.out))
      have htk : m.take k = m := List.take_of_length_le (by rw [← Hn2.out]; exact Nat.le_refl _)
      have HC3 : Hid (mergeCode l m = if 60 < n1 then 5 else 0) := Lib.hid (by rw [HC2.out, if_pos HOk.out, Hn1.out, List.length_append, htk])
      have HO' : Hid (OwnItems wr w2.heap.size (.slice a1 n1 c1) (l ++ addF l m)) := Lib.hid (by have := HO.out; rwa [htk] at this)
      clear HC2 HM htk HO
      by_cases h60 : 60 < n1
      · have HC1 : Hid (mergeCode l m = 5) := Lib.hid (by rw [HC3.out, if_pos h60])
        clear HC3 HO'
        go_wp2
        go_ret2
        exact GivesItemsC.none (mergeL_nil HC1.out (by decide)) HC1.out hbr
      · have HC1 : Hid (mergeCode l m = 0) := Lib.hid (by rw [HC3.out, if_neg h60])
        have HA : Hid (mergeL l m = insAll (ltN Item.name) (addF l m) l) := Lib.hid (by unfold mergeL; rw [if_pos HC1.out])
        have KS := Lib.hid (sortItems_c a1 n1 c1 _ wr w2.heap.size HO'.out (by have h1 := addF_le l m; have h2 := okItems_len HE1.out; have h3 := okItems_len HE2.out; rw [List.length_append]; omega) hb2.size)
        clear HC3 HO'
        go_wp2_with fail
        refine KS.out.mono ?_
        rintro e w8 ⟨rfl, l', p1, p2, o8, hb8⟩
        have HO8 : Hid (OwnItems w8 w.heap.size (.slice a1 n1 c1) (mergeL l m)) := Lib.hid (by rw [HA.out, ← merge_one HE1.out HE2.out p1 p2]; exact OwnNest.mono o8 hb.size)
        clear o8 KS p1 p2
        go_wp2
        go_ret2
        exact GivesItemsC.mk HC1.out HO8.out (bthen hb (hb2.trans hb8))
end Go.Proofs.YtcgbdhbdlnimhaaGreat
