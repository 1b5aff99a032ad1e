/- MergeL: plain laws on libraries that are merged. -/
import Derived.Test.YthnkhpebaeloeaaItemAdd2
namespace Go.Proofs.Ythnkhpebaeloeaa
open Go.ChangeShapes Go.WideShapes Go.ChangeAt Go.RowKit

def newTo (a : List Item) (x : Item) : Bool := decide (findI (isNm x.name) a = -1)
def sameTo (a : List Item) (x : Item) : Bool := decide (findI (isNm x.name) a = findI (isPt x.pattern) a)
def addF (a b : List Item) : List Item := b.filter (newTo a)
def okMerge (a b : List Item) : Bool := b.all (sameTo a)
def mergeCode (a b : List Item) : Int := if okItems a = true then (if okItems b = true then (if okMerge a b = true then (if 60 < a.length + (addF a b).length then 5 else 0) else 4) else 1) else 1
def mergeL (a b : List Item) : List Item := if mergeCode a b = 0 then insAll (ltN Item.name) (addF a b) a else []
theorem mergeL_nil {a b : List Item} {c : Int} (h : mergeCode a b = c) (hc : c ≠ 0) : mergeL a b = [] := by unfold mergeL; rw [h, if_neg hc]
def DN (l : List Item) : Prop := l.Pairwise fun x y => x.name ≠ y.name
def DP (l : List Item) : Prop := l.Pairwise fun x y => x.pattern ≠ y.pattern
theorem isPt_iff (p : List Int) (x : Item) : isPt p x = true ↔ x.pattern = p := same2_iff eqI eqI_iff _ _
theorem isNm_iff (s : ByteArray) (x : Item) : isNm s x = true ↔ x.name = s := by unfold isNm; simp
theorem findI_neg_iff (f : Item → Bool) (l : List Item) : findI f l = -1 ↔ ∀ y ∈ l, f y = false := by
  constructor
  · intro h; exact findI_none' h
  · intro h
    rcases findI_cases f l with h1 | ⟨k, _, hk, hf, _⟩
    · exact h1
    · rw [h _ (mem_nth hk)] at hf; exact absurd hf (by decide)
theorem dn_idx {l : List Item} (h : DN l) {i j : Nat} (hi : i < l.length) (hj : j < l.length) (he : (nth l i).name = (nth l j).name) : i = j := by
  rw [nth_eq l i hi, nth_eq l j hj] at he
  rcases Nat.lt_trichotomy i j with h1 | h1 | h1
  · exact absurd he ((List.pairwise_iff_getElem.1 h) i j hi hj h1)
  · exact h1
  · exact absurd he.symm ((List.pairwise_iff_getElem.1 h) j i hj hi h1)
theorem dp_idx {l : List Item} (h : DP l) {i j : Nat} (hi : i < l.length) (hj : j < l.length) (he : (nth l i).pattern = (nth l j).pattern) : i = j := by
  rw [nth_eq l i hi, nth_eq l j hj] at he
  rcases Nat.lt_trichotomy i j with h1 | h1 | h1
  · exact absurd he ((List.pairwise_iff_getElem.1 h) i j hi hj h1)
  · exact h1
  · exact absurd he.symm ((List.pairwise_iff_getElem.1 h) j i hj hi h1)
theorem find_same {l : List Item} (hN : DN l) (hP : DP l) (x : Item) : findI (isNm x.name) l = findI (isPt x.pattern) l ↔ ((∀ y ∈ l, y.name ≠ x.name) ∧ (∀ y ∈ l, y.pattern ≠ x.pattern)) ∨ ∃ y ∈ l, y.name = x.name ∧ y.pattern = x.pattern := by
  have n1 : findI (isNm x.name) l = -1 → ∀ y ∈ l, y.name ≠ x.name := fun h y hy e => by
    have := findI_none' h y hy
    rw [(isNm_iff _ _).2 e] at this; exact absurd this (by decide)
  have n2 : findI (isPt x.pattern) l = -1 → ∀ y ∈ l, y.pattern ≠ x.pattern := fun h y hy e => by
    have := findI_none' h y hy
    rw [(isPt_iff _ _).2 e] at this; exact absurd this (by decide)
  rcases findI_cases (isNm x.name) l with h1 | ⟨k1, h1, hk1, f1, _⟩ <;> rcases findI_cases (isPt x.pattern) l with h2 | ⟨k2, h2, hk2, f2, _⟩
  · exact ⟨fun _ => .inl ⟨n1 h1, n2 h2⟩, fun _ => by rw [h1, h2]⟩
  · refine ⟨fun h => by omega, fun h => ?_⟩
    rcases h with ⟨_, h⟩ | ⟨y, hy, he, _⟩
    · exact absurd ((isPt_iff _ _).1 f2) (h _ (mem_nth hk2))
    · exact absurd he (n1 h1 y hy)
  · refine ⟨fun h => by omega, fun h => ?_⟩
    rcases h with ⟨h, _⟩ | ⟨y, hy, _, he⟩
    · exact absurd ((isNm_iff _ _).1 f1) (h _ (mem_nth hk1))
    · exact absurd he (n2 h2 y hy)
  · rw [h1, h2]
    have e1 := (isNm_iff _ _).1 f1
    have e2 := (isPt_iff _ _).1 f2
    constructor
    · intro h
      have h' : k1 = k2 := by omega
      subst h'
      exact .inr ⟨_, mem_nth hk1, e1, e2⟩
    · intro h
      rcases h with ⟨h, _⟩ | ⟨y, hy, hn, hp⟩
      · exact absurd e1 (h _ (mem_nth hk1))
      · obtain ⟨i, hi, rfl⟩ := List.getElem_of_mem hy
        rw [← nth_eq l i hi] at hn hp
        have a1 := dn_idx hN hi hk1 (hn.trans e1.symm)
        have a2 := dp_idx hP hi hk2 (hp.trans e2.symm)
        omega
theorem okItems_dn {l : List Item} (h : okItems l = true) : DN l := List.Pairwise.imp (fun {x y} hl e => by
  rw [e, (swo_ltN (id : ByteArray → ByteArray)).irrefl y.name |> fun h => (show lessB y.name y.name = false from h)] at hl
  exact absurd hl (by decide)) (okItems_pw h)
theorem okItems_dp {l : List Item} (h : okItems l = true) : DP l := by
  refine List.pairwise_iff_getElem.2 fun i j hi hj hij he => ?_
  have := okItems_at h hj
  unfold okItemAt at this
  simp only [Bool.and_eq_true] at this
  have hf := this.2.2.2.2
  unfold freshAt at hf
  rw [List.all_eq_true] at hf
  have h2 := hf i (List.mem_range.2 hij)
  rw [nth_eq l i hi, nth_eq l j hj, he, (same2_iff eqI eqI_iff _ _).2 rfl] at h2
  exact absurd h2 (by decide)
theorem dn_perm {l m : List Item} (h : l.Perm m) (hd : DN l) : DN m := (List.Perm.pairwise_iff (fun h e => h e.symm) h).1 hd
theorem dp_perm {l m : List Item} (h : l.Perm m) (hd : DP l) : DP m := (List.Perm.pairwise_iff (fun h e => h e.symm) h).1 hd
theorem dn_add {a b c : List Item} (ha : DN a) (hb : DN b) (hc : c.Sublist b) : DN (addF a c ++ a) := by
  refine List.pairwise_append.2 ⟨List.Pairwise.sublist (List.filter_sublist.trans hc) hb, ha, fun x hx y hy e => ?_⟩
  have hn := (List.mem_filter.1 hx).2
  unfold newTo at hn
  have := findI_none' (of_decide_eq_true hn) y hy
  rw [(isNm_iff _ _).2 e.symm] at this; exact absurd this (by decide)
theorem dp_add {a b c : List Item} (ha : DP a) (hb : DP b) (hc : c.Sublist b) (hm : ∀ x ∈ c, sameTo a x = true) : DP (addF a c ++ a) := by
  refine List.pairwise_append.2 ⟨List.Pairwise.sublist (List.filter_sublist.trans hc) hb, ha, fun x hx y hy e => ?_⟩
  obtain ⟨hxc, hn⟩ := List.mem_filter.1 hx
  unfold newTo at hn
  have h1 := of_decide_eq_true hn
  have h2 := of_decide_eq_true (hm x hxc)
  rw [h1] at h2
  have := findI_none' h2.symm y hy
  rw [(isPt_iff _ _).2 e.symm] at this; exact absurd this (by decide)
/-- What has been merged behind the first k of b. -/
def merged (a b : List Item) (k : Nat) : List Item := insAll (ltN Item.name) (addF a (b.take k)) a
theorem merged_perm (a b : List Item) (k : Nat) : (merged a b k).Perm (addF a (b.take k) ++ a) := insAll_perm _ _ _
theorem insAll_snoc {α : Type} [Inhabited α] (lt : α → α → Bool) : ∀ (l acc : List α) (x : α), insAll lt (l ++ [x]) acc = insB lt (insAll lt l acc) x
  | [], _, _ => rfl
  | y :: l, acc, x => insAll_snoc lt l (insB lt acc y) x
theorem addF_step {a b : List Item} {k : Nat} (hk : k < b.length) : addF a (b.take (k + 1)) = addF a (b.take k) ++ (if newTo a (nth b k) = true then [nth b k] else []) := by
  unfold addF
  rw [take_nth b k hk, List.filter_append]
  congr 1
  by_cases h : newTo a (nth b k) = true
  · rw [if_pos h]; simp [h]
  · rw [if_neg h]; simp [h]
theorem merged_new {a b : List Item} {k : Nat} (hk : k < b.length) (h : newTo a (nth b k) = true) : merged a b (k + 1) = insB (ltN Item.name) (merged a b k) (nth b k) := by
  unfold merged; rw [addF_step hk, if_pos h, insAll_snoc]
theorem merged_old {a b : List Item} {k : Nat} (hk : k < b.length) (h : newTo a (nth b k) = false) : merged a b (k + 1) = merged a b k := by
  unfold merged; rw [addF_step hk, if_neg (by rw [h]; decide), List.append_nil]
theorem merge_step {a b : List Item} {k : Nat} (ha : okItems a = true) (hb : okItems b = true) (hk : k < b.length) (hm : ∀ j, j < k → sameTo a (nth b j) = true) :
    (findI (isNm (nth b k).name) (merged a b k) = findI (isPt (nth b k).pattern) (merged a b k) ↔ sameTo a (nth b k) = true) ∧ (findI (isNm (nth b k).name) (merged a b k) = -1 ↔ newTo a (nth b k) = true) := by
  have hsub : (b.take k).Sublist b := List.take_sublist _ _
  have hmt : ∀ x ∈ b.take k, sameTo a x = true := by
    intro x hx
    obtain ⟨j, hj, rfl⟩ := List.getElem_of_mem hx
    rw [List.length_take] at hj
    rw [List.getElem_take, ← nth_eq b j (by omega)]
    exact hm j (by omega)
  have hp := merged_perm a b k
  have hN := dn_perm hp.symm (dn_add (okItems_dn ha) (okItems_dn hb) hsub)
  have hP := dp_perm hp.symm (dp_add (okItems_dp ha) (okItems_dp hb) hsub hmt)
  have hmem : ∀ y, y ∈ merged a b k ↔ y ∈ addF a (b.take k) ∨ y ∈ a := fun y => by rw [hp.mem_iff, List.mem_append]
  have hfar : ∀ y ∈ addF a (b.take k), y.name ≠ (nth b k).name ∧ y.pattern ≠ (nth b k).pattern := by
    intro y hy
    have hyt := (List.mem_filter.1 hy).1
    obtain ⟨j, hj, rfl⟩ := List.getElem_of_mem hyt
    rw [List.length_take] at hj
    rw [List.getElem_take, ← nth_eq b j (by omega)]
    refine ⟨fun e => ?_, fun e => ?_⟩
    · have := dn_idx (okItems_dn hb) (by omega) hk e; omega
    · have := dp_idx (okItems_dp hb) (by omega) hk e; omega
  constructor
  · rw [find_same hN hP]
    unfold sameTo
    rw [decide_eq_true_iff, find_same (okItems_dn ha) (okItems_dp ha)]
    constructor
    · intro h
      rcases h with ⟨h1, h2⟩ | ⟨y, hy, h1, h2⟩
      · exact .inl ⟨fun y hy => h1 y ((hmem y).2 (.inr hy)), fun y hy => h2 y ((hmem y).2 (.inr hy))⟩
      · rcases (hmem y).1 hy with hy | hy
        · exact absurd h1 (hfar y hy).1
        · exact .inr ⟨y, hy, h1, h2⟩
    · intro h
      rcases h with ⟨h1, h2⟩ | ⟨y, hy, h1, h2⟩
      · refine .inl ⟨fun y hy => ?_, fun y hy => ?_⟩
        · rcases (hmem y).1 hy with hy | hy
          · exact (hfar y hy).1
          · exact h1 y hy
        · rcases (hmem y).1 hy with hy | hy
          · exact (hfar y hy).2
          · exact h2 y hy
      · exact .inr ⟨y, (hmem y).2 (.inr hy), h1, h2⟩
  · unfold newTo
    rw [decide_eq_true_iff, findI_neg_iff, findI_neg_iff]
    constructor
    · intro h y hy; exact h y ((hmem y).2 (.inr hy))
    · intro h y hy
      rcases (hmem y).1 hy with hy | hy
      · cases hc : isNm (nth b k).name y
        · rfl
        · exact absurd ((isNm_iff _ _).1 hc) (hfar y hy).1
      · exact h y hy
theorem merged_len (a b : List Item) (k : Nat) : (merged a b k).length = a.length + (addF a (b.take k)).length := by
  have := (merged_perm a b k).length_eq
  rw [List.length_append] at this; omega
theorem addF_le (a b : List Item) : (addF a b).length ≤ b.length := List.length_filter_le _ _
theorem merged_ok {a b : List Item} (ha : okItems a = true) (hb : okItems b = true) (k : Nat) : (merged a b k).length ≤ 120 ∧ ∀ x ∈ merged a b k, x.pattern.length ≤ 1048576 := by
  constructor
  · rw [merged_len]
    have h1 := okItems_len ha
    have h2 := okItems_len hb
    have h3 := addF_le a (b.take k)
    rw [List.length_take] at h3; omega
  · intro x hx
    have := (merged_perm a b k).mem_iff.1 hx
    rcases List.mem_append.1 this with h | h
    · have := (okPat_len (okItems_pat hb x (List.mem_of_mem_take (List.mem_filter.1 h).1))).2; omega
    · have := (okPat_len (okItems_pat ha x h)).2; omega
theorem mergeL_ok (a b : List Item) : (mergeL a b).length ≤ 1048576 ∧ ∀ x ∈ mergeL a b, x.pattern.length ≤ 1048576 := by
  unfold mergeL
  split
  · rename_i h
    unfold mergeCode at h
    split at h
    · rename_i h1
      split at h
      · rename_i h2
        have := merged_ok h1 h2 b.length
        unfold merged at this
        rw [List.take_length] at this
        exact ⟨by omega, this.2⟩
      · exact absurd h (by decide)
    · exact absurd h (by decide)
  · exact ⟨by simp, fun x hx => absurd hx List.not_mem_nil⟩
theorem okMerge_all {a b : List Item} (h : ∀ j, j < b.length → sameTo a (nth b j) = true) : okMerge a b = true := by
  unfold okMerge
  rw [List.all_eq_true]
  intro x hx
  obtain ⟨j, hj, rfl⟩ := List.getElem_of_mem hx
  rw [← nth_eq b j hj]; exact h j hj
theorem okMerge_not {a b : List Item} {k : Nat} (hk : k < b.length) (h : sameTo a (nth b k) = false) : okMerge a b = false := by
  unfold okMerge
  rw [List.all_eq_false]
  exact ⟨_, mem_nth hk, by rw [h]; decide⟩
theorem merge_one {a b l' : List Item} (ha : okItems a = true) (hb : okItems b = true) (hp : l'.Perm (a ++ addF a b)) (hA : Asc (ltN Item.name) l') : l' = insAll (ltN Item.name) (addF a b) a := by
  have hd := dn_add (okItems_dn ha) (okItems_dn hb) (List.Sublist.refl b)
  refine names_one Item.name (hp.trans List.perm_append_comm) hA (fun x hx y hy e => ?_) (insAll_perm _ _ _) (insAll_asc (swo_ltN _) _ _ (pw_asc Item.name (okItems_pw ha)))
  obtain ⟨i, hi, rfl⟩ := List.getElem_of_mem hx
  obtain ⟨j, hj, rfl⟩ := List.getElem_of_mem hy
  rw [← nth_eq _ i hi, ← nth_eq _ j hj] at *
  rw [dn_idx hd hi hj e]
end Go.Proofs.Ythnkhpebaeloeaa
