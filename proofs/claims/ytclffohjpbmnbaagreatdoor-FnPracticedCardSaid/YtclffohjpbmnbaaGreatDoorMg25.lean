import Derived.Test.YtclffohjpbmnbaaGreatDoorMg22
import Derived.Test.YtclffohjpbmnbaaGreatDoorMg24
import Derived.Test.YtclffohjpbmnbaaGreatDoorMg14
import Derived.Test.YtclffohjpbmnbaaGreatDoorMg16
import Derived.Test.YtclffohjpbmnbaaGreatDoorMg21
/- Med: the median of the catches of a pattern, by both packages; the law FnExactMedianCatches. -/
namespace Go.Proofs.YtclffohjpbmnbaaGreatDoor
open Go.ChangeShapes Go.WideShapes Go.ChangeAt Go.RowKit

theorem insAll_len {α : Type} [Inhabited α] (lt : α → α → Bool) (l : List α) : (insAll lt l []).length = l.length := by
  have := (insAll_perm lt l []).length_eq; simpa using this
theorem ints_sorted {l l' : List Int} (hp : l'.Perm l) (ha : Asc Go.Sort.ltInt l') : l' = insAll Go.Sort.ltInt l [] := by
  refine asc_unique ha (insAll_asc Go.Sort.swo_ltInt l [] List.Pairwise.nil) (hp.trans (by have := (insAll_perm Go.Sort.ltInt l []).symm; simpa using this)) ?_
  intro a _ b _ h1 h2
  simp only [Go.Sort.ltInt, decide_eq_false_iff_not] at h1 h2
  omega
def medL (l : List Att) (p : List Int) : Int := if askCode l p = 0 then nth (insAll Go.Sort.ltInt (catL l (askL l p)) []) (((askL l p).length - 1) / 2) else 0
theorem askL_pos {l : List Att} {p : List Int} (h : askCode l p = 0) : 0 < (askL l p).length := by
  unfold askL; rw [if_pos h]
  unfold askCode at h
  split at h
  · split at h
    · exact absurd h (by decide)
    · rename_i h2; exact List.length_pos_iff.2 (by simpa using h2)
  · exact absurd h (by decide)

end Go.Proofs.YtclffohjpbmnbaaGreatDoor

/- SumRev: plain: what the law on summaries asks: attempts the other way round, bounds, records. -/
namespace Go.Proofs.YtclffohjpbmnbaaGreatDoor
open Go.RowKit

theorem okAttsF_of : ∀ (l : List Att), (∀ x ∈ l, okPat x.pattern = true ∧ 0 ≤ x.catches ∧ x.catches ≤ 100000) → okAttsF l = true
  | [], _ => rfl
  | x :: l, h => by
    obtain ⟨h1, h2, h3⟩ := h x (List.mem_cons_self ..)
    unfold okAttsF
    rw [h1, okAttsF_of l (fun y hy => h y (List.mem_cons_of_mem _ hy)), show inB x.catches 0 100000 = true by unfold inB; simp; omega]
    rfl
theorem okAtts_rev {l : List Att} (h : okAtts l = true) : okAtts l.reverse = true := by
  unfold okAtts at *
  rw [Bool.and_eq_true] at *
  exact ⟨okAttsF_of _ (fun x hx => okAttsF_mem l h.1 x (List.mem_reverse.1 hx)), by rw [List.length_reverse]; exact h.2⟩
/-- The attempts at a pattern, themselves. -/
def mineL (l : List Att) (p : List Int) : List Att := l.filter fun x => same2 eqI (canL x.pattern) (canL p)
theorem atsN_map (l : List Att) (c : List Int) : ∀ n, n ≤ l.length → (atsN l c n).map (fun i => nth l i.toNat) = (l.take n).filter fun x => same2 eqI (canL x.pattern) c
  | 0, _ => rfl
  | n + 1, h => by
    have ht : l.take (n + 1) = l.take n ++ [nth l n] := by
      rw [List.take_add_one, List.getElem?_eq_getElem (by omega), nth_eq _ _ (by omega)]; rfl
    rw [ht, List.filter_append, ← atsN_map l c n (by omega)]
    cases hs : same2 eqI (canL (nth l n).pattern) c
    · rw [atsN_no l c n hs]; simp [hs]
    · rw [atsN_yes l c n hs]; simp [hs]
theorem atsL_map (l : List Att) (p : List Int) : (atsL l p).map (fun i => nth l i.toNat) = mineL l p := by
  unfold atsL mineL
  rw [atsN_map l _ _ (Nat.le_refl _), List.take_length]
theorem smF_fold (l : List Att) (P : Int) : ∀ (own : List Int) (s : Sm), smF l P own s = (own.map fun i => nth l i.toNat).foldl (smStep P) s
  | [], _ => rfl
  | i :: own, s => by rw [smF, smF_fold l P own, List.map_cons, List.foldl_cons]
theorem smStep_comm (P : Int) (s : Sm) (x y : Att) : smStep P (smStep P s x) y = smStep P (smStep P s y) x := by
  unfold smStep
  simp only [Sm.mk.injEq]
  refine ⟨trivial, by omega, ?_, ?_, ?_, ?_⟩
  · unfold mx; repeat' split
    all_goals omega
  · cases x.dropped <;> cases y.dropped <;> simp
  · repeat' split
    all_goals omega
  · repeat' split
    all_goals omega
theorem foldl_rev (P : Int) : ∀ (m : List Att) (s : Sm), m.reverse.foldl (smStep P) s = m.foldl (smStep P) s
  | [], _ => rfl
  | x :: m, s => by
    rw [List.reverse_cons, List.foldl_append, foldl_rev P m s, List.foldl_cons, List.foldl_cons, List.foldl_nil]
    have : ∀ (m : List Att) (s : Sm), smStep P (m.foldl (smStep P) s) x = m.foldl (smStep P) (smStep P s x) := by
      intro m
      induction m with
      | nil => intro s; rfl
      | cons y m ih => intro s; rw [List.foldl_cons, List.foldl_cons, ih, smStep_comm]
    exact this m s
theorem ask_ok {l : List Att} {p : List Int} (h : askCode l p = 0) : okAtts l = true ∧ okPat p = true ∧ 0 < (atsL l p).length ∧ askL l p = atsL l p := by
  have h' := h
  unfold askCode at h
  split at h
  · rename_i h1
    rw [Bool.and_eq_true] at h1
    split at h
    · exact absurd h (by decide)
    · rename_i h2
      exact ⟨h1.1, h1.2, Nat.pos_of_ne_zero h2, by unfold askL; rw [if_pos h']⟩
  · exact absurd h (by decide)
theorem sum_rev {l : List Att} {p : List Int} (h : askCode l p = 0) : askCode l.reverse p = 0 ∧ sumL l.reverse p = sumL l p := by
  obtain ⟨h1, h2, h3, h4⟩ := ask_ok h
  have hm : (atsL l.reverse p).map (fun i => nth l.reverse i.toNat) = (mineL l p).reverse := by
    rw [atsL_map]; unfold mineL; rw [List.filter_reverse]
  have hlen : (atsL l.reverse p).length = (atsL l p).length := by
    have e1 := congrArg List.length hm
    have e2 := congrArg List.length (atsL_map l p)
    rw [List.length_map, List.length_reverse] at e1
    rw [List.length_map] at e2
    omega
  have hc : askCode l.reverse p = 0 := by
    unfold askCode
    rw [okAtts_rev h1, h2, Bool.and_self, if_pos rfl, hlen, if_neg (by omega)]
  refine ⟨hc, ?_⟩
  unfold sumL
  rw [if_pos hc, if_pos h, (ask_ok hc).2.2.2, h4, smF_fold, smF_fold, hm, atsL_map, foldl_rev]
theorem fold_in (P : Int) : ∀ (m : List Att) (s : Sm), (∀ x ∈ m, 0 ≤ x.catches) → s.flashes + s.runs ≤ s.att → s.drops ≤ s.att → 0 ≤ s.best →
    (m.foldl (smStep P) s).flashes + (m.foldl (smStep P) s).runs ≤ (m.foldl (smStep P) s).att ∧ (m.foldl (smStep P) s).drops ≤ (m.foldl (smStep P) s).att ∧
    s.best ≤ (m.foldl (smStep P) s).best ∧ (∀ x ∈ m, x.catches ≤ (m.foldl (smStep P) s).best) ∧ ((m.foldl (smStep P) s).best = s.best ∨ ∃ x ∈ m, x.catches = (m.foldl (smStep P) s).best)
  | [], s, _, h1, h2, _ => ⟨h1, h2, Int.le_refl _, fun _ h => absurd h List.not_mem_nil, .inl rfl⟩
  | x :: m, s, h, h1, h2, h3 => by
    rw [List.foldl_cons]
    have e : (smStep P s x).best = mx s.best x.catches := rfl
    have hb : s.best ≤ (smStep P s x).best ∧ x.catches ≤ (smStep P s x).best ∧ ((smStep P s x).best = s.best ∨ x.catches = (smStep P s x).best) := by
      rw [e]; unfold mx; split <;> omega
    obtain ⟨a1, a2, a3, a4, a5⟩ := fold_in P m (smStep P s x) (fun y hy => h y (List.mem_cons_of_mem _ hy)) (by unfold smStep; dsimp only; split <;> (try split) <;> omega) (by unfold smStep; dsimp only; split <;> omega) (by omega)
    refine ⟨a1, a2, by omega, fun y hy => ?_, ?_⟩
    · rcases List.mem_cons.1 hy with rfl | hy
      · omega
      · exact a4 y hy
    · rcases a5 with a5 | ⟨y, hy, a5⟩
      · rcases hb.2.2 with b | b
        · exact .inl (by rw [a5, b])
        · exact .inr ⟨x, List.mem_cons_self .., by rw [b, a5]⟩
      · exact .inr ⟨y, List.mem_cons_of_mem _ hy, a5⟩
/-- How many catches the attempt with a number has. -/
def ctc (l : List Att) (i : Int) : Int := (nth l i.toNat).catches
theorem rec_go (l : List Att) : ∀ (own : List Int) (b : Int), (∀ x ∈ recF l own b, x ∈ own ∧ b < ctc l x) ∧ (recF l own b).Pairwise (fun x y => ctc l x < ctc l y) ∧ (∀ x ∈ own, ctc l x ≤ b ∨ ∃ y ∈ recF l own b, ctc l x ≤ ctc l y)
  | [], _ => ⟨fun _ h => absurd h List.not_mem_nil, List.Pairwise.nil, fun _ h => absurd h List.not_mem_nil⟩
  | x :: own, b => by
    unfold recF
    by_cases h : b < (nth l x.toNat).catches
    · rw [if_pos h]
      obtain ⟨h1, h2, h3⟩ := rec_go l own (nth l x.toNat).catches
      refine ⟨fun y hy => ?_, List.pairwise_cons.2 ⟨fun y hy => (h1 y hy).2, h2⟩, fun y hy => ?_⟩
      · rcases List.mem_cons.1 hy with rfl | hy
        · exact ⟨List.mem_cons_self .., h⟩
        · have := h1 y hy
          exact ⟨List.mem_cons_of_mem _ this.1, by omega⟩
      · rcases List.mem_cons.1 hy with rfl | hy
        · exact .inr ⟨y, List.mem_cons_self .., Int.le_refl _⟩
        · rcases h3 y hy with h4 | ⟨z, hz, h4⟩
          · exact .inr ⟨x, List.mem_cons_self .., h4⟩
          · exact .inr ⟨z, List.mem_cons_of_mem _ hz, h4⟩
    · rw [if_neg h]
      obtain ⟨h1, h2, h3⟩ := rec_go l own b
      refine ⟨fun y hy => ⟨List.mem_cons_of_mem _ (h1 y hy).1, (h1 y hy).2⟩, h2, fun y hy => ?_⟩
      rcases List.mem_cons.1 hy with rfl | hy
      · exact .inl (Int.not_lt.1 h)
      · exact h3 y hy
/-- What a summary, a median and the records are. -/
theorem sum_law {l : List Att} {p : List Int} (h : askCode l p = 0) : (sumL l p).flashes + (sumL l p).runs ≤ (sumL l p).att ∧ (sumL l p).drops ≤ (sumL l p).att ∧ medL l p ≤ (sumL l p).best ∧ 1 ≤ (recL l p).length ∧
    (∀ k, k < (recL l p).length → ∃ i : Nat, nth (recL l p) k = (i : Int) ∧ i < l.length) ∧
    (∀ k, k + 1 < (recL l p).length → ctc l (nth (recL l p) k) < ctc l (nth (recL l p) (k + 1))) ∧
    ctc l (nth (recL l p) ((recL l p).length - 1)) = (sumL l p).best := by
  obtain ⟨h1, h2, h3, h4⟩ := ask_ok h
  have hok := (okAtts_nth h1).1
  have hmine : ∀ x ∈ mineL l p, x ∈ l := fun x hx => (List.mem_filter.1 hx).1
  have hpos : ∀ x ∈ mineL l p, 0 ≤ x.catches := fun x hx => by
    obtain ⟨i, hi, rfl⟩ := List.getElem_of_mem (hmine x hx)
    have := (hok i hi).2.1
    rwa [nth_eq _ _ hi] at this
  have hs : sumL l p = (mineL l p).foldl (smStep (propsL p)) sumZ := by
    unfold sumL; rw [if_pos h, h4, smF_fold, atsL_map]
  obtain ⟨a1, a2, a3, a4, a5⟩ := fold_in (propsL p) (mineL l p) sumZ hpos (by decide) (by decide) (by decide)
  rw [← hs] at a1 a2 a3 a4 a5
  have hcat : ∀ x ∈ atsL l p, ctc l x ≤ (sumL l p).best ∧ 0 ≤ ctc l x := fun x hx => by
    have : nth l x.toNat ∈ mineL l p := by rw [← atsL_map]; exact List.mem_map.2 ⟨x, hx, rfl⟩
    exact ⟨a4 _ this, hpos _ this⟩
  obtain ⟨r1, r2, r3⟩ := rec_go l (atsL l p) (-1)
  have hrec : recL l p = recF l (atsL l p) (-1) := by unfold recL; rw [h4]
  rw [← hrec] at r1 r2 r3
  have hfirst := hcat _ (mem_nth h3)
  have hne : 1 ≤ (recL l p).length := by
    rcases r3 _ (mem_nth h3) with h5 | ⟨y, hy, _⟩
    · omega
    · exact List.length_pos_of_mem hy
  have hasc : ∀ i j, i < j → j < (recL l p).length → ctc l (nth (recL l p) i) < ctc l (nth (recL l p) j) := fun i j hij hj => by
    rw [nth_eq _ _ hj, nth_eq _ _ (by omega)]
    exact (List.pairwise_iff_getElem.1 r2) i j (by omega) hj hij
  refine ⟨a1, a2, ?_, hne, fun k hk => ?_, fun k hk => hasc k (k + 1) (Nat.lt_succ_self _) hk, ?_⟩
  · unfold medL
    rw [if_pos h, h4]
    have hlen : (((insAll Go.Sort.ltInt (catL l (atsL l p)) [])).length) = (atsL l p).length := by rw [insAll_len, catL_len]
    have hm : nth (insAll Go.Sort.ltInt (catL l (atsL l p)) []) (((atsL l p).length - 1) / 2) ∈ insAll Go.Sort.ltInt (catL l (atsL l p)) [] := mem_nth (by rw [hlen]; omega)
    have hp := (insAll_perm Go.Sort.ltInt (catL l (atsL l p)) []).mem_iff.1 hm
    rw [List.append_nil] at hp
    obtain ⟨x, hx, he⟩ := List.mem_map.1 hp
    rw [← he]; exact (hcat x hx).1
  · obtain ⟨i, hi, hil⟩ := atsN_mem (r1 _ (mem_nth hk)).1
    exact ⟨i, hi, hil⟩
  · have hlast : ∀ x ∈ atsL l p, ctc l x ≤ ctc l (nth (recL l p) ((recL l p).length - 1)) := fun x hx => by
      rcases r3 x hx with h5 | ⟨y, hy, h5⟩
      · have := (hcat x hx).2; omega
      · obtain ⟨i, hi, rfl⟩ := List.getElem_of_mem hy
        rw [← nth_eq _ _ hi] at h5
        rcases Nat.lt_or_ge i ((recL l p).length - 1) with h6 | h6
        · have := hasc i _ h6 (by omega); omega
        · have : i = (recL l p).length - 1 := by omega
          rw [← this]; exact h5
    have hle := (hcat _ (r1 _ (mem_nth (show (recL l p).length - 1 < (recL l p).length by omega))).1).1
    refine Int.le_antisymm hle ?_
    rcases a5 with a5 | ⟨x, hx, a5⟩
    · have h6 := hlast _ (mem_nth h3)
      have h7 : (sumL l p).best = 0 := a5
      omega
    · rw [← atsL_map] at hx
      obtain ⟨i, hi, he⟩ := List.mem_map.1 hx
      have := hlast i hi
      unfold ctc at *
      rw [he] at this
      omega
end Go.Proofs.YtclffohjpbmnbaaGreatDoor
