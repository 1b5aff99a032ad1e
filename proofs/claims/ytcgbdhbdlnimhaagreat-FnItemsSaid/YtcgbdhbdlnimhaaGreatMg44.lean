import Derived.Test.YtcgbdhbdlnimhaaGreatMg43
import Derived.Test.YtcgbdhbdlnimhaaGreatMg31
import Derived.Test.YtcgbdhbdlnimhaaGreatMg13
/- LibL: plain laws on libraries: what is added is found, and gone again; merging. -/
namespace Go.Proofs.YtcgbdhbdlnimhaaGreat
open Go.ChangeShapes Go.WideShapes Go.ChangeAt Go.RowKit

def GoodI (x : Item) : Prop := nameB (chars x.name) = true ∧ okPat x.pattern = true ∧ canL x.pattern = x.pattern
theorem canIs_iff (p : List Int) : canIs p = true ↔ canL p = p := same2_iff eqI eqI_iff _ _
theorem okItems_good {l : List Item} (h : okItems l = true) : ∀ x ∈ l, GoodI x := by
  intro x hx
  obtain ⟨i, hi, rfl⟩ := List.getElem_of_mem hx
  rw [← nth_eq l i hi]
  have h1 := okItems_at h hi
  unfold okItemAt at h1
  simp only [Bool.and_eq_true] at h1
  exact ⟨h1.1, h1.2.1, (canIs_iff _).1 h1.2.2.1⟩
theorem okItems_of {l : List Item} (hg : ∀ x ∈ l, GoodI x) (ho : l.Pairwise fun a b => lessB a.name b.name = true) (hp : DP l) (hl : l.length ≤ 60) : okItems l = true := by
  unfold okItems okTo
  rw [decide_eq_true hl, Bool.and_true, List.all_eq_true]
  intro k hk
  have hk := List.mem_range.1 hk
  obtain ⟨h1, h2, h3⟩ := hg _ (mem_nth hk)
  unfold okItemAt
  rw [h1, h2, (canIs_iff _).2 h3, Bool.true_and, Bool.true_and, Bool.true_and, Bool.and_eq_true]
  refine ⟨?_, freshAt_true fun j hj => ?_⟩
  · unfold ordAt
    by_cases h0 : k = 0
    · rw [decide_eq_true h0, Bool.true_or]
    · rw [nth_eq l (k - 1) (by omega), nth_eq l k hk, (List.pairwise_iff_getElem.1 ho) (k - 1) k (by omega) hk (by omega), Bool.or_true]
  · cases e : same2 eqI (nth l j).pattern (nth l k).pattern
    · rfl
    · have e2 := (same2_iff eqI eqI_iff _ _).1 e
      have := dp_idx hp (by omega) hk e2
      omega
theorem pw_of_asc {l : List Item} (ha : Asc (ltN Item.name) l) (hd : DN l) : l.Pairwise fun a b => lessB a.name b.name = true := by
  refine List.pairwise_iff_getElem.2 fun i j hi hj hij => ?_
  have h1 := (List.pairwise_iff_getElem.1 ha) i j hi hj hij
  have h2 := (List.pairwise_iff_getElem.1 hd) i j hi hj hij
  cases h : lessB l[i].name l[j].name
  · exact absurd (lessB_anti h h1) h2
  · rfl
theorem ok_perm {l m : List Item} (hp : l.Perm m) (hg : ∀ x ∈ m, GoodI x) (hn : DN m) (hq : DP m) (ha : Asc (ltN Item.name) l) (hl : m.length ≤ 60) : okItems l = true :=
  okItems_of (fun x hx => hg x (hp.mem_iff.1 hx)) (pw_of_asc ha (dn_perm hp.symm hn)) (dp_perm hp.symm hq) (by rw [hp.length_eq]; exact hl)
theorem find_uniq {f : Item → Bool} {l : List Item} {x : Item} (hx : x ∈ l) (hf : f x = true) (hu : ∀ y ∈ l, f y = true → y = x) : ∃ k : Nat, findI f l = (k : Int) ∧ k < l.length ∧ nth l k = x := by
  rcases findI_cases f l with h | ⟨k, h1, h2, h3, _⟩
  · have := findI_none' h x hx
    rw [hf] at this; exact absurd this (by decide)
  · exact ⟨k, h1, h2, hu _ (mem_nth h2) h3⟩
theorem dn_one {l : List Item} (h : DN l) {x y : Item} (hx : x ∈ l) (hy : y ∈ l) (e : x.name = y.name) : x = y := by
  obtain ⟨i, hi, rfl⟩ := List.getElem_of_mem hx
  obtain ⟨j, hj, rfl⟩ := List.getElem_of_mem hy
  rw [← nth_eq l i hi, ← nth_eq l j hj] at *
  rw [dn_idx h hi hj e]
theorem dp_one {l : List Item} (h : DP l) {x y : Item} (hx : x ∈ l) (hy : y ∈ l) (e : x.pattern = y.pattern) : x = y := by
  obtain ⟨i, hi, rfl⟩ := List.getElem_of_mem hx
  obtain ⟨j, hj, rfl⟩ := List.getElem_of_mem hy
  rw [← nth_eq l i hi, ← nth_eq l j hj] at *
  rw [dp_idx h hi hj e]
theorem named_law {l : List Item} (h : okItems l = true) {x : Item} (hx : x ∈ l) : patNamedCode l x.name = 0 ∧ patNamedL l x.name = x.pattern := by
  obtain ⟨k, h1, h2, h3⟩ := find_uniq (f := isNm x.name) hx ((isNm_iff _ _).2 rfl) (fun y hy e => dn_one (okItems_dn h) hy hx ((isNm_iff _ _).1 e))
  unfold patNamedCode patNamedL
  rw [h1, if_pos h, if_pos h, if_neg (by omega), if_neg (by omega), Int.toNat_natCast, h3]
  exact ⟨rfl, rfl⟩
theorem name_law {l : List Item} (h : okItems l = true) {x : Item} (hx : x ∈ l) {q : List Int} (hq : okPat q = true) (hc : canL q = x.pattern) : nameOfCode l q = 0 ∧ nameOfS l q = x.name := by
  obtain ⟨k, h1, h2, h3⟩ := find_uniq (f := isPt (canL q)) hx ((isPt_iff _ _).2 hc.symm) (fun y hy e => dp_one (okItems_dp h) hy hx (((isPt_iff _ _).1 e).trans hc))
  have hb : (okItems l && okPat q) = true := by rw [h, hq]; rfl
  unfold nameOfCode nameOfS nameOfK
  refine ⟨?_, ?_⟩
  · rw [h1, if_pos hb, if_neg (by omega)]
  · rw [h1, if_pos hb, if_neg (by omega), Int.toNat_natCast, h3]
theorem perm_erase {l : List Item} {k : Nat} (hk : k < l.length) : l.Perm (nth l k :: (l.take k ++ l.drop (k + 1))) := by
  refine List.Perm.trans ?_ List.perm_middle
  rw [nth_eq l k hk, ← List.drop_eq_getElem_cons hk, List.take_append_drop]
theorem add_facts {l : List Item} {s : ByteArray} {p : List Int} (hc : addItCode l s p = 0) : okItems l = true ∧ okPat p = true ∧ nameB (chars s) = true ∧ (∀ y ∈ l, y.name ≠ s) ∧ (∀ y ∈ l, y.pattern ≠ canL p) ∧ l.length ≤ 59 := by
  unfold addItCode at hc
  split at hc
  · rename_i h1
    split at hc
    · rename_i h2
      split at hc
      · rename_i h3
        split at hc
        · rename_i h4
          split at hc
          · rename_i h5
            split at hc
            · simp at hc
            · rename_i h6
              have := okItems_len h1
              exact ⟨h1, h2, h3, fun y hy e => (by have := findI_none' h4 y hy; rw [(isNm_iff _ _).2 e] at this; exact absurd this (by decide)), fun y hy e => (by have := findI_none' h5 y hy; rw [(isPt_iff _ _).2 e] at this; exact absurd this (by decide)), by omega⟩
          · simp at hc
        · simp at hc
      · simp at hc
    · simp at hc
  · simp at hc
theorem add_all {l : List Item} {s : ByteArray} {p : List Int} (hc : addItCode l s p = 0) : okItems (addItL l s p) = true ∧ (⟨s, canL p⟩ : Item) ∈ addItL l s p ∧ remCode (addItL l s p) s = 0 ∧ remL (addItL l s p) s = l := by
  obtain ⟨h1, h2, h3, h4, h5, h6⟩ := add_facts hc
  have hX : addItL l s p = insB (ltN Item.name) l ⟨s, canL p⟩ := by unfold addItL; rw [if_pos hc]
  have hp := insB_perm (ltN Item.name) l ⟨s, canL p⟩
  have ha := insB_asc (swo_ltN Item.name) (pw_asc Item.name (okItems_pw h1)) ⟨s, canL p⟩
  rw [hX]
  generalize insB (ltN Item.name) l ⟨s, canL p⟩ = X at *
  have hN : DN (⟨s, canL p⟩ :: l) := List.pairwise_cons.2 ⟨fun y hy e => h4 y hy e.symm, okItems_dn h1⟩
  have hP : DP (⟨s, canL p⟩ :: l) := List.pairwise_cons.2 ⟨fun y hy e => h5 y hy e.symm, okItems_dp h1⟩
  have hl1 := ok_in h2
  have hok : okItems X = true := ok_perm hp (fun x hx => by
    rcases List.mem_cons.1 hx with rfl | hx
    · exact ⟨h3, okPat_can h2, can_can p hl1.1⟩
    · exact okItems_good h1 x hx) hN hP ha (by simp; omega)
  have hm : (⟨s, canL p⟩ : Item) ∈ X := hp.mem_iff.2 List.mem_cons_self
  refine ⟨hok, hm, ?_⟩
  obtain ⟨k, e1, e2, e3⟩ := find_uniq (f := isNm s) hm ((isNm_iff _ _).2 rfl) (fun y hy e => dn_one (okItems_dn hok) hy hm ((isNm_iff _ _).1 e))
  unfold remCode remL
  rw [e1, if_pos hok, if_pos hok, if_neg (by omega), if_neg (by omega), Int.toNat_natCast]
  refine ⟨rfl, ?_⟩
  have q := perm_erase e2
  rw [e3] at q
  have q2 : (X.take k ++ X.drop (k + 1)).Perm l := (List.perm_cons _).1 (q.symm.trans hp)
  refine names_one Item.name q2 (List.Pairwise.sublist ?_ ha) (fun a ha b hb e => dn_one (okItems_dn h1) ha hb e) (List.Perm.refl l) (pw_asc Item.name (okItems_pw h1))
  have hs : (X.take k ++ X.drop (k + 1)).Sublist (X.take k ++ X.drop k) := (List.Sublist.refl _).append (List.drop_sublist_drop_left X (by omega))
  rw [List.take_append_drop] at hs
  exact hs
theorem merge_facts {a b : List Item} (hc : mergeCode a b = 0) : okItems a = true ∧ okItems b = true ∧ okMerge a b = true ∧ a.length + (addF a b).length ≤ 60 := by
  unfold mergeCode at hc
  split at hc
  · rename_i h1
    split at hc
    · rename_i h2
      split at hc
      · rename_i h3
        split at hc
        · simp at hc
        · exact ⟨h1, h2, h3, by omega⟩
      · simp at hc
    · simp at hc
  · simp at hc
theorem merge_mem {a b : List Item} (ha : okItems a = true) (_hb : okItems b = true) (hm : okMerge a b = true) (z : Item) : z ∈ addF a b ++ a ↔ z ∈ a ∨ z ∈ b := by
  rw [List.mem_append]
  constructor
  · rintro (h | h)
    · exact .inr (List.mem_filter.1 h).1
    · exact .inl h
  · rintro (h | h)
    · exact .inr h
    · have h1 := List.all_eq_true.1 hm z h
      unfold sameTo at h1
      rcases (find_same (okItems_dn ha) (okItems_dp ha) z).1 (of_decide_eq_true h1) with ⟨h2, _⟩ | ⟨y, hy, e1, e2⟩
      · refine .inl (List.mem_filter.2 ⟨h, ?_⟩)
        unfold newTo
        refine decide_eq_true ((findI_neg_iff _ _).2 fun y hy => ?_)
        cases hc : isNm z.name y
        · rfl
        · exact absurd ((isNm_iff _ _).1 hc) (h2 y hy)
      · have : y = z := by cases y; cases z; simp_all
        exact .inr (this ▸ hy)
theorem dn_nodup {l : List Item} (h : DN l) : l.Nodup := List.Pairwise.imp (fun h e => h (by rw [e])) h
theorem merge_swap {a b : List Item} (hc : mergeCode a b = 0) : mergeCode b a = 0 ∧ mergeL b a = mergeL a b := by
  obtain ⟨ha, hb, hm, hl⟩ := merge_facts hc
  have hmb : okMerge b a = true := by
    unfold okMerge
    rw [List.all_eq_true]
    intro x hx
    unfold sameTo
    refine decide_eq_true ((find_same (okItems_dn hb) (okItems_dp hb) x).2 ?_)
    by_cases h : ∃ y ∈ b, y.name = x.name ∨ y.pattern = x.pattern
    · obtain ⟨y, hy, e⟩ := h
      have h1 := List.all_eq_true.1 hm y hy
      unfold sameTo at h1
      rcases (find_same (okItems_dn ha) (okItems_dp ha) y).1 (of_decide_eq_true h1) with ⟨h2, h3⟩ | ⟨z, hz, e1, e2⟩
      · rcases e with e | e
        · exact absurd e.symm (h2 x hx)
        · exact absurd e.symm (h3 x hx)
      · have : z = x := by
          rcases e with e | e
          · exact dn_one (okItems_dn ha) hz hx (e1.trans e)
          · exact dp_one (okItems_dp ha) hz hx (e2.trans e)
        subst this
        exact .inr ⟨y, hy, e1.symm, e2.symm⟩
    · exact .inl ⟨fun y hy e => h ⟨y, hy, .inl e⟩, fun y hy e => h ⟨y, hy, .inr e⟩⟩
  have hd1 := dn_add (okItems_dn ha) (okItems_dn hb) (List.Sublist.refl b)
  have hd2 := dn_add (okItems_dn hb) (okItems_dn ha) (List.Sublist.refl a)
  have hperm : (addF b a ++ b).Perm (addF a b ++ a) := (List.perm_ext_iff_of_nodup (dn_nodup hd2) (dn_nodup hd1)).2 fun z => by
    rw [merge_mem ha hb hm, merge_mem hb ha hmb, or_comm]
  have hlen := hperm.length_eq
  rw [List.length_append, List.length_append] at hlen
  have hc2 : mergeCode b a = 0 := by
    unfold mergeCode
    rw [if_pos hb, if_pos ha, if_pos hmb, if_neg (by omega)]
  refine ⟨hc2, ?_⟩
  unfold mergeL
  rw [if_pos hc, if_pos hc2]
  refine merge_one ha hb ((insAll_perm _ _ _).trans (hperm.trans List.perm_append_comm)) (insAll_asc (swo_ltN _) _ _ (pw_asc Item.name (okItems_pw hb)))
theorem merge_all {a b : List Item} (hc : mergeCode a b = 0) : okItems (mergeL a b) = true ∧ ∀ x ∈ b, x ∈ mergeL a b := by
  obtain ⟨ha, hb, hm, hl⟩ := merge_facts hc
  have hX : mergeL a b = insAll (ltN Item.name) (addF a b) a := by unfold mergeL; rw [if_pos hc]
  have hp := insAll_perm (ltN Item.name) (addF a b) a
  rw [hX]
  refine ⟨ok_perm hp (fun x hx => ?_) (dn_add (okItems_dn ha) (okItems_dn hb) (List.Sublist.refl b)) (dp_add (okItems_dp ha) (okItems_dp hb) (List.Sublist.refl b) (fun x hx => List.all_eq_true.1 hm x hx)) (insAll_asc (swo_ltN _) _ _ (pw_asc Item.name (okItems_pw ha))) (by rw [List.length_append]; omega), fun x hx => hp.mem_iff.2 ((merge_mem ha hb hm x).2 (.inr hx))⟩
  rcases (merge_mem ha hb hm x).1 hx with h | h
  · exact okItems_good ha x h
  · exact okItems_good hb x h
end Go.Proofs.YtcgbdhbdlnimhaaGreat
