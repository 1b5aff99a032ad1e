import Derived.Test.YtmffgmegbappiaaMg33
import Derived.Test.YtmffgmegbappiaaMg36
/- BalL: plain: what the law on balanced plans asks. -/
namespace Go.Proofs.Ytmffgmegbappiaa
open Go.RowKit

/-- How many of them fall on a day. -/
def onDay (L : List Card) (e : Int) (r : List Int) : Nat := (r.filter fun x => decide (dueK L x = e)).length
theorem onDay_cons (L : List Card) (e : Int) (x : Int) (r : List Int) : onDay L e (x :: r) = onDay L e r + if dueK L x = e then 1 else 0 := by
  unfold onDay
  rw [List.filter_cons]
  by_cases h : dueK L x = e
  · simp [h]
  · simp [h]
theorem onDay_none (L : List Card) (e : Int) : ∀ (r : List Int), (∀ x ∈ r, dueK L x ≠ e) → onDay L e r = 0
  | [], _ => rfl
  | x :: r, h => by
    rw [onDay_cons, onDay_none L e r (fun y hy => h y (List.mem_cons_of_mem _ hy)), if_neg (h x (List.mem_cons_self ..))]
theorem dueSet_nth (L : List Card) (q i : Nat) (d : Int) (hq : q < L.length) : nth (dueSet L q d) i = if i = q then ⟨(nth L q).name, (nth L q).level, d⟩ else nth L i := by
  unfold dueSet
  rw [nth_set _ _ _ _ hq]
theorem bal_go {l : List Card} {most : Int} : ∀ (r : List Int) (day c : Int) (out L : List Card), balF l most r day c out = some L → (r.map Int.toNat).Nodup → (∀ x ∈ r, x.toNat < out.length) → 1 ≤ most → c ≤ most →
    (∀ q, q ∉ r.map Int.toNat → nth L q = nth out q) ∧
    (∀ x ∈ r, (nth L x.toNat).name = (nth out x.toNat).name ∧ (nth L x.toNat).level = (nth out x.toNat).level ∧ day ≤ dueK L x ∧ dueK l x ≤ dueK L x ∧ inB (dueK L x) 0 100000 = true) ∧
    (∀ e, (onDay L e r : Int) ≤ if e = day then most - c else most)
  | [], day, c, out, L, h, _, _, hm, hc => by
    simp only [balF, Option.some.injEq] at h
    subst h
    refine ⟨fun _ _ => rfl, fun x hx => absurd hx List.not_mem_nil, fun e => ?_⟩
    show ((0 : Nat) : Int) ≤ _
    split <;> omega
  | x :: r, day, c, out, L, h, hn, hx, hm, hc => by
    rw [List.map_cons, List.nodup_cons] at hn
    obtain ⟨hxr, hnr⟩ := hn
    have hq := hx x (List.mem_cons_self ..)
    have key : ∀ (d' c' : Int), inB d' 0 100000 = true → day ≤ d' → dueK l x ≤ d' → c' ≤ most → (d' = day → c' = c + 1) → (d' ≠ day → c' = 1) →
        balF l most r d' c' (dueSet out x.toNat d') = some L →
        (∀ q, q ∉ (x :: r).map Int.toNat → nth L q = nth out q) ∧
        (∀ y ∈ x :: r, (nth L y.toNat).name = (nth out y.toNat).name ∧ (nth L y.toNat).level = (nth out y.toNat).level ∧ day ≤ dueK L y ∧ dueK l y ≤ dueK L y ∧ inB (dueK L y) 0 100000 = true) ∧
        (∀ e, (onDay L e (x :: r) : Int) ≤ if e = day then most - c else most) := by
      intro d' c' hin hd hl hc' h1 h2 hb
      have hlen : (dueSet out x.toNat d').length = out.length := by unfold dueSet; simp
      obtain ⟨A, B, C⟩ := bal_go r d' c' _ L hb hnr (fun y hy => by rw [hlen]; exact hx y (List.mem_cons_of_mem _ hy)) hm hc'
      have hLx : nth L x.toNat = ⟨(nth out x.toNat).name, (nth out x.toNat).level, d'⟩ := by
        rw [A _ hxr, dueSet_nth _ _ _ _ hq, if_pos rfl]
      have hdx : dueK L x = d' := by unfold dueK; rw [hLx]
      refine ⟨fun q hq2 => ?_, fun y hy => ?_, fun e => ?_⟩
      · rw [List.map_cons, List.mem_cons, not_or] at hq2
        rw [A q hq2.2, dueSet_nth _ _ _ _ hq, if_neg hq2.1]
      · rcases List.mem_cons.1 hy with rfl | hy
        · rw [hdx, hLx]; exact ⟨rfl, rfl, hd, hl, hin⟩
        · obtain ⟨b1, b2, b3, b4, b5⟩ := B y hy
          have hne : y.toNat ≠ x.toNat := fun e => hxr (by rw [← e]; exact List.mem_map.2 ⟨y, hy, rfl⟩)
          rw [dueSet_nth _ _ _ _ hq, if_neg hne] at b1 b2
          exact ⟨b1, b2, by omega, b4, b5⟩
      · have hCe := C e
        rw [onDay_cons, hdx]
        by_cases hed : e = d'
        · subst hed
          rw [if_pos rfl] at hCe
          rw [if_pos rfl]
          by_cases hdd : e = day
          · have := h1 hdd; rw [if_pos hdd]; push_cast; omega
          · have := h2 hdd; rw [if_neg hdd]; push_cast; omega
        · rw [if_neg (Ne.symm hed)]
          rw [if_neg hed] at hCe
          by_cases hdd : e = day
          · rw [if_pos hdd]
            have h0 : onDay L e r = 0 := onDay_none L e r (fun y hy => by have := (B y hy).2.2.1; omega)
            rw [h0]; push_cast; omega
          · rw [if_neg hdd]; push_cast; omega
    unfold balF at h
    split at h
    · rename_i hlt
      split at h
      · rename_i hin
        exact key _ _ hin (by omega) (Int.le_refl _) hm (fun e => by omega) (fun _ => rfl) h
      · exact absurd h (by simp)
    · rename_i hge
      split at h
      · rename_i hcm
        split at h
        · rename_i hin
          exact key _ _ hin (by omega) (by omega) hm (fun e => by omega) (fun _ => rfl) h
        · exact absurd h (by simp)
      · rename_i hcm
        split at h
        · rename_i hin
          exact key _ _ hin (Int.le_refl _) (by omega) (by omega) (fun _ => rfl) (fun e => absurd rfl e) h
        · exact absurd h (by simp)
theorem dueSet_self (X : List Card) (q : Nat) (hq : q < X.length) : dueSet X q (nth X q).due = X := by
  unfold dueSet
  have e : (⟨(nth X q).name, (nth X q).level, (nth X q).due⟩ : Card) = X[q] := by rw [nth_eq _ _ hq]
  rw [e, List.set_getElem_self]
theorem bal_same {X : List Card} {most : Int} : ∀ (r : List Int) (d c : Int), (∀ x ∈ r, x.toNat < X.length) → r.Pairwise (fun a b => dueK X a ≤ dueK X b) → (∀ x ∈ r, d ≤ dueK X x ∧ inB (dueK X x) 0 100000 = true) →
    (∀ e, (onDay X e r : Int) ≤ most) → (onDay X d r : Int) + c ≤ most → balF X most r d c X = some X
  | [], _, _, _, _, _, _, _ => rfl
  | x :: r, d, c, hx, hp, hd, hC, hcd => by
    obtain ⟨hp1, hp2⟩ := List.pairwise_cons.1 hp
    obtain ⟨hdx, hin⟩ := hd x (List.mem_cons_self ..)
    have hq := hx x (List.mem_cons_self ..)
    have hself : dueSet X x.toNat (dueK X x) = X := dueSet_self X x.toNat hq
    have hCr : ∀ e, (onDay X e r : Int) ≤ most := fun e => by have := hC e; rw [onDay_cons] at this; push_cast at this; split at this <;> omega
    unfold balF
    by_cases hlt : d < dueK X x
    · rw [if_pos hlt, if_pos hin, hself]
      refine bal_same r _ 1 (fun y hy => hx y (List.mem_cons_of_mem _ hy)) hp2 (fun y hy => ⟨hp1 y hy, (hd y (List.mem_cons_of_mem _ hy)).2⟩) hCr ?_
      have := hC (dueK X x)
      rw [onDay_cons, if_pos rfl] at this
      push_cast at this; omega
    · have he : dueK X x = d := by omega
      rw [onDay_cons, if_pos he] at hcd
      push_cast at hcd
      rw [if_neg hlt, if_neg (by omega), if_pos (by rw [← he]; exact hin)]
      have hself2 : dueSet X x.toNat d = X := by rw [← he]; exact hself
      rw [hself2]
      exact bal_same r _ (c + 1) (fun y hy => hx y (List.mem_cons_of_mem _ hy)) hp2 (fun y hy => hd y (List.mem_cons_of_mem _ hy)) hCr (by omega)
theorem cardOrder_perm (l : List Card) : (cardOrder l).Perm (iota l.length) := order_perm _ _ _
theorem iota_toNat (n : Nat) : (iota n).map Int.toNat = List.range n := by
  unfold iota
  rw [List.map_map]
  have : (Int.toNat ∘ Int.ofNat) = id := by funext x; rfl
  rw [this, List.map_id]
theorem cardOrder_nodup (l : List Card) : ((cardOrder l).map Int.toNat).Nodup := by
  have h := (cardOrder_perm l).map Int.toNat
  rw [iota_toNat] at h
  exact h.nodup_iff.2 List.nodup_range
theorem cardOrder_mem (l : List Card) (x : Int) : x ∈ cardOrder l ↔ ∃ i : Nat, i < l.length ∧ x = (i : Int) := (cardOrder_perm l).mem_iff.trans mem_iota
/-- How many cards fall on a day. -/
def cntD (L : List Card) (e : Int) : Nat := (L.filter fun c => decide (c.due = e)).length
theorem onDay_all (L : List Card) (e : Int) (o : List Int) (h : o.Perm (iota L.length)) : onDay L e o = cntD L e := by
  have h1 : (o.map fun x => nth L x.toNat).Perm L := by
    have h2 := h.map (fun x : Int => nth L x.toNat)
    have h3 : (iota L.length).map (fun x : Int => nth L x.toNat) = L := by
      apply List.ext_getElem?
      intro i
      by_cases hi : i < L.length
      · rw [List.getElem?_map]
        have : (iota L.length)[i]? = some (i : Int) := by rw [nth_get? _ _ (by rw [iota_len]; exact hi), iota_nth _ _ hi]
        rw [this, nth_get? L i hi]; rfl
      · rw [List.getElem?_eq_none (by simp [iota_len]; omega), List.getElem?_eq_none (by omega)]
    rw [h3] at h2; exact h2
  have h4 := (h1.filter (fun c => decide (c.due = e))).length_eq
  unfold cntD
  rw [← h4, List.filter_map, List.length_map]
  rfl
/-- What a balanced plan is. -/
theorem bal_law {l : List Card} {day most : Int} (h : balC l day most = 0) : 1 ≤ most ∧ most ≤ 40 ∧ (balL l day most).length = l.length ∧ okCards (balL l day most) = true ∧
    (∀ i, i < l.length → (nth (balL l day most) i).name = (nth l i).name ∧ (nth (balL l day most) i).level = (nth l i).level ∧ (nth l i).due ≤ (nth (balL l day most) i).due ∧ day ≤ (nth (balL l day most) i).due ∧ (cntD (balL l day most) (nth (balL l day most) i).due : Int) ≤ most) ∧
    balC (balL l day most) day most = 0 ∧ balL (balL l day most) day most = balL l day most := by
  have h' := h
  unfold balC at h'
  by_cases h0 : dayC l day = 0
  · rw [if_pos h0] at h'
    by_cases h1 : inB most 1 40 = true
    · rw [if_pos h1] at h'
      cases hb : balF l most (cardOrder l) day 0 l with
      | none => rw [hb] at h'; exact absurd h' (by decide)
      | some X =>
        have hX := (bal_some h0 h1 hb).2
        rw [hX]
        have hm := inB_true h1
        obtain ⟨hok, hd0, hd1⟩ := dayC_zero h0
        have hlen := balF_len _ _ _ _ _ _ _ hb
        obtain ⟨A, B, C⟩ := bal_go _ _ _ _ _ hb (cardOrder_nodup l) (fun x hx => by obtain ⟨i, hi, rfl⟩ := (cardOrder_mem l x).1 hx; simpa using hi) hm.1 (by omega)
        have hB : ∀ i, i < l.length → (nth X i).name = (nth l i).name ∧ (nth X i).level = (nth l i).level ∧ day ≤ (nth X i).due ∧ (nth l i).due ≤ (nth X i).due ∧ inB (nth X i).due 0 100000 = true := by
          intro i hi
          have := B (i : Int) ((cardOrder_mem l _).2 ⟨i, hi, rfl⟩)
          simpa [dueK] using this
        have hC : ∀ e, (cntD X e : Int) ≤ most := by
          intro e
          rw [← onDay_all X e (cardOrder l) (by rw [hlen]; exact cardOrder_perm l)]
          have := C e
          split at this <;> omega
        have hokX : okCards X = true := by
          refine okCards_of (fun c hc => ?_) ?_ (by rw [hlen]; exact okCards_len hok)
          · obtain ⟨i, hi, rfl⟩ := List.getElem_of_mem hc
            rw [← nth_eq _ _ hi]
            obtain ⟨b1, b2, _, _, b5⟩ := hB i (by omega)
            obtain ⟨g1, g2, _⟩ := goodC_in (okCards_good hok _ (mem_nth (show i < l.length by omega)))
            unfold goodC
            rw [b1, b2, b5, g1, inB_of g2]; rfl
          · have hw := okCards_pw hok
            rw [List.pairwise_iff_getElem] at hw ⊢
            intro i j hi hj hij
            rw [← nth_eq _ _ hi, ← nth_eq _ _ hj, (hB i (by omega)).1, (hB j (by omega)).1]
            have := hw i j (by omega) (by omega) hij
            rwa [← nth_eq, ← nth_eq] at this
        have h2 : dayC X day = 0 := by unfold dayC; rw [hokX, inB_of ⟨hd0, hd1⟩]; rfl
        have hs : balF X most (cardOrder X) day 0 X = some X := by
          refine bal_same _ _ _ (fun x hx => by obtain ⟨i, hi, rfl⟩ := (cardOrder_mem X x).1 hx; simpa using hi) ?_ (fun x hx => ?_) (fun e => ?_) ?_
          · refine (order_asc (dueK X) (lvlK X) X.length).imp ?_
            intro a b hab
            unfold ltT at hab
            simp only [decide_eq_false_iff_not] at hab
            omega
          · obtain ⟨i, hi, rfl⟩ := (cardOrder_mem X x).1 hx
            obtain ⟨_, _, b3, _, b5⟩ := hB i (by omega)
            unfold dueK
            exact ⟨by simpa using b3, by simpa using b5⟩
          · rw [onDay_all X e _ (cardOrder_perm X)]; exact hC e
          · rw [onDay_all X day _ (cardOrder_perm X)]; have := hC day; omega
        obtain ⟨k1, k2⟩ := bal_some h2 h1 hs
        refine ⟨hm.1, hm.2, hlen, hokX, fun i hi => ?_, k1, k2⟩
        obtain ⟨b1, b2, b3, b4, _⟩ := hB i hi
        exact ⟨b1, b2, b4, b3, hC _⟩
    · rw [if_neg h1] at h'; exact absurd h' (by decide)
  · rw [if_neg h0] at h'; exact absurd h' h0
theorem sum_set : ∀ (l : List Int) (i : Nat) (x : Int), i < l.length → (l.set i x).sum = l.sum - nth l i + x
  | [], i, _, h => absurd h (Nat.not_lt_zero _)
  | y :: l, 0, x, _ => by rw [nth_cons_zero, List.set_cons_zero, List.sum_cons, List.sum_cons]; omega
  | y :: l, i + 1, x, h => by rw [nth_cons_succ, List.set_cons_succ, List.sum_cons, List.sum_cons, sum_set l i x (by simpa using h)]; omega
theorem work_sum (day days : Int) : ∀ (l : List Card) (out : List Int), (∀ x ∈ out, 0 ≤ x) → (workF l day days out).sum ≤ out.sum + (l.length : Int) ∧ ∀ x ∈ workF l day days out, 0 ≤ x
  | [], out, h => ⟨by simp [workF], h⟩
  | c :: l, out, h => by
    unfold workF
    by_cases h1 : atOf c day < days
    · rw [if_pos h1]
      by_cases h2 : (atOf c day).toNat < out.length
      · have hb : ∀ x ∈ bump out (atOf c day).toNat, 0 ≤ x := by
          intro x hx
          unfold bump at hx
          rcases List.mem_or_eq_of_mem_set hx with h3 | rfl
          · exact h x h3
          · have := h _ (mem_nth h2); omega
        have hi := work_sum day days l _ hb
        refine ⟨?_, hi.2⟩
        have hs : (bump out (atOf c day).toNat).sum = out.sum + 1 := by unfold bump; rw [sum_set _ _ _ h2]; omega
        have := hi.1
        rw [hs] at this
        simp only [List.length_cons]; push_cast; omega
      · have hb : bump out (atOf c day).toNat = out := by unfold bump; exact List.set_eq_of_length_le (by omega)
        rw [hb]
        have hi := work_sum day days l out h
        refine ⟨?_, hi.2⟩
        have := hi.1
        simp only [List.length_cons]; push_cast; omega
    · rw [if_neg h1]
      have hi := work_sum day days l out h
      refine ⟨?_, hi.2⟩
      have := hi.1
      simp only [List.length_cons]; push_cast; omega
theorem work_law (l : List Card) (day days : Int) : (workL l day days).sum ≤ (l.length : Int) ∧ ∀ x ∈ workL l day days, 0 ≤ x := by
  unfold workL
  split
  · have h := work_sum day days l (List.replicate days.toNat 0) (fun x hx => by rw [(List.mem_replicate.1 hx).2]; exact Int.le_refl _)
    have h0 : (List.replicate days.toNat (0 : Int)).sum = 0 := by induction days.toNat with | zero => rfl | succ n ih => rw [List.replicate_succ, List.sum_cons, ih]; rfl
    rw [h0] at h
    exact ⟨by omega, h.2⟩
  · exact ⟨by simp, fun x hx => absurd hx List.not_mem_nil⟩
end Go.Proofs.Ytmffgmegbappiaa
