import Derived.Test.YtmffgmegbappiaaMg35
import Derived.Test.YtmffgmegbappiaaMg32
import Derived.Test.YtmffgmegbappiaaMg17
/- RevL: plain: what the law on reviews asks of plans. -/
namespace Go.Proofs.Ytmffgmegbappiaa
open Go.RowKit

def goodC (c : Card) : Bool := nameB (chars c.name) && (inB c.level 0 6 && inB c.due 0 100000)
theorem lessB_trans {a b c : ByteArray} (h1 : lessB a b = true) (h2 : lessB b c = true) : lessB a c = true := (swo_ltN (β := ByteArray) id).trans _ _ _ h1 h2
theorem okCardsF_of : ∀ (l : List Card) (p : Option Card), (∀ c ∈ l, goodC c = true) → (∀ x, p = some x → ∀ c ∈ l, lessB x.name c.name = true) → l.Pairwise (fun a b => lessB a.name b.name = true) → okCardsF p l = true
  | [], _, _, _, _ => by cases ‹Option Card› <;> rfl
  | c :: l, p, hg, hp, hw => by
    obtain ⟨hw1, hw2⟩ := List.pairwise_cons.1 hw
    have h1 := hg c (List.mem_cons_self ..)
    unfold goodC at h1
    simp only [Bool.and_eq_true] at h1
    have h2 : orderB p c = true := by
      cases p with
      | none => rfl
      | some x => exact hp x rfl c (List.mem_cons_self ..)
    unfold okCardsF
    rw [h1.1, h1.2.1, h1.2.2, h2, okCardsF_of l (some c) (fun d hd => hg d (List.mem_cons_of_mem _ hd)) (fun x hx d hd => by injection hx with hx; subst hx; exact hw1 d hd) hw2]
    rfl
theorem okCardsF_good : ∀ (l : List Card) (p : Option Card), okCardsF p l = true → ∀ c ∈ l, goodC c = true
  | [], _, _, c, hc => absurd hc List.not_mem_nil
  | d :: l, p, h, c, hc => by
    unfold okCardsF at h
    simp only [Bool.and_eq_true] at h
    rcases List.mem_cons.1 hc with rfl | hc
    · unfold goodC; rw [h.1.1, h.1.2.1, h.1.2.2.1]; rfl
    · exact okCardsF_good l _ h.2 c hc
theorem okCards_good {l : List Card} (h : okCards l = true) : ∀ c ∈ l, goodC c = true := by
  unfold okCards at h; rw [Bool.and_eq_true] at h; exact okCardsF_good l none h.1
theorem okCards_of {l : List Card} (hg : ∀ c ∈ l, goodC c = true) (hw : l.Pairwise (fun a b => lessB a.name b.name = true)) (hl : l.length ≤ 40) : okCards l = true := by
  unfold okCards
  rw [okCardsF_of l none hg (fun x hx => by cases hx) hw, decide_eq_true hl]; rfl
theorem goodC_in {c : Card} (h : goodC c = true) : nameB (chars c.name) = true ∧ (0 ≤ c.level ∧ c.level ≤ 6) ∧ (0 ≤ c.due ∧ c.due ≤ 100000) := by
  unfold goodC at h
  simp only [Bool.and_eq_true] at h
  exact ⟨h.1, inB_true h.2.1, inB_true h.2.2⟩
theorem inB_of {n lo hi : Int} (h : lo ≤ n ∧ n ≤ hi) : inB n lo hi = true := by unfold inB; simp; omega
theorem lessB_irr (a : ByteArray) : lessB a a = false := (swo_ltN (β := ByteArray) id).irrefl a
theorem names_apart {l : List Card} (h : okCards l = true) {i j : Nat} (hi : i < l.length) (hj : j < l.length) (e : (nth l i).name = (nth l j).name) : i = j := by
  have hw := okCards_pw h
  rw [List.pairwise_iff_getElem] at hw
  rw [nth_eq _ _ hi, nth_eq _ _ hj] at e
  rcases Nat.lt_trichotomy i j with h1 | h1 | h1
  · have := hw i j hi hj h1; rw [e, lessB_irr] at this; exact absurd this (by decide)
  · exact h1
  · have := hw j i hj hi h1; rw [e, lessB_irr] at this; exact absurd this (by decide)
/-- A review: what the new plan is. -/
theorem rev_law {l : List Card} {s : ByteArray} {good : Bool} {day : Int} (h : revCode l s good day = 0) :
    okCards l = true ∧ okCards (revL l s good day) = true ∧ (revL l s good day).length = l.length ∧
    ∀ i, i < l.length → ((nth (revL l s good day) i).name ≠ s → nth (revL l s good day) i = nth l i) ∧
      ((nth (revL l s good day) i).name = s → ivlB (nth (revL l s good day) i).level = 0 ∧ (nth (revL l s good day) i).due = day + ivlA (nth (revL l s good day) i).level ∧
        (good = true → ¬ (nth (revL l s good day) i).level < (nth l i).level) ∧ (good = false → ¬ (nth l i).level < (nth (revL l s good day) i).level)) := by
  have e : revL l s good day = l.set (findC l s).toNat ⟨s, revLv good (nth l (findC l s).toNat).level, revDue good (nth l (findC l s).toNat).level day⟩ := by unfold revL; rw [if_pos h]
  unfold revCode at h
  by_cases hd : dayC l day = 0
  · rw [if_pos hd] at h
    have hok : okCards l = true := by
      cases ho : okCards l
      · unfold dayC at hd; rw [ho] at hd; simp at hd
      · rfl
    rcases findC_cases l s with hf | ⟨q, hf, hq, hqs⟩
    · rw [hf, if_pos (by decide)] at h; exact absurd h (by decide)
    · have hnn : ¬ findC l s < 0 := by omega
      rw [if_neg hnn] at h
      split at h
      · exact absurd h (by decide)
      · split at h
        · rename_i hin
          have hb := inB_true hin
          rw [hf, Int.toNat_natCast] at e hb
          obtain ⟨hn, hl, hdu⟩ := goodC_in (okCards_good hok _ (mem_nth hq))
          have hlv := revLv_in good (nth l q).level hl.1 hl.2
          have hlen : (revL l s good day).length = l.length := by rw [e, List.length_set]
          refine ⟨hok, ?_, hlen, fun i hi => ?_⟩
          · refine okCards_of (fun c hc => ?_) ?_ (by rw [hlen]; exact okCards_len hok)
            · rw [e] at hc
              rcases List.mem_or_eq_of_mem_set hc with h1 | rfl
              · exact okCards_good hok c h1
              · unfold goodC
                simp only
                rw [← hqs, hn, inB_of hlv, inB_of hb]; rfl
            · have hw := okCards_pw hok
              rw [List.pairwise_iff_getElem] at hw ⊢
              have hname : ∀ i, i < l.length → (nth (revL l s good day) i).name = (nth l i).name := by
                intro i hi
                rw [e]
                by_cases hiq : i = q
                · subst hiq
                  conv => lhs; unfold nth
                  rw [List.getD, List.getElem?_set_self hi, hqs]; rfl
                · unfold nth
                  rw [List.getD, List.getElem?_set_ne (Ne.symm hiq)]; rfl
              intro i j hi hj hij
              rw [← nth_eq _ _ hi, ← nth_eq _ _ hj, hname i (by omega), hname j (by omega)]
              have := hw i j (by omega) (by omega) hij
              rwa [← nth_eq, ← nth_eq] at this
          · by_cases hiq : i = q
            · subst hiq
              have e3 : nth (revL l s good day) i = ⟨s, revLv good (nth l i).level, revDue good (nth l i).level day⟩ := by
                rw [e]
                conv => lhs; unfold nth
                rw [List.getD, List.getElem?_set_self hi]; rfl
              rw [e3]
              refine ⟨fun hx => absurd rfl hx, fun _ => ⟨?_, ?_, ?_, ?_⟩⟩
              · unfold ivlB; rw [if_pos (inB_of hlv)]
              · show revDue good (nth l i).level day = _
                unfold ivlA revDue; rw [if_pos (inB_of hlv)]
              · intro hg; subst hg
                show ¬ revLv true (nth l i).level < _
                unfold revLv mn; simp; split <;> omega
              · intro hg; subst hg
                show ¬ _ < revLv false (nth l i).level
                unfold revLv mx; simp; split <;> omega
            · have e3 : nth (revL l s good day) i = nth l i := by
                rw [e]
                unfold nth
                rw [List.getD, List.getElem?_set_ne (Ne.symm hiq)]; rfl
              refine ⟨fun _ => e3, fun hx => ?_⟩
              rw [e3] at hx
              exact absurd (names_apart hok hi hq (by rw [hx, hqs])) hiq
        · exact absurd h (by decide)
  · rw [if_neg hd] at h; exact absurd h hd
theorem findF_mid : ∀ (a : List Card) (x : Card) (b : List Card) (s : ByteArray) (j : Nat), (∀ c ∈ a, c.name ≠ s) → x.name = s → findF (a ++ x :: b) s j = ((j + a.length : Nat) : Int)
  | [], x, b, s, j, _, hx => by simp [findF, hx]
  | c :: a, x, b, s, j, ha, hx => by
    rw [List.cons_append, findF, if_neg (ha c (List.mem_cons_self ..)), findF_mid a x b s (j + 1) (fun d hd => ha d (List.mem_cons_of_mem _ hd)) hx]
    congr 1; simp; omega
/-- A card put in and taken out again. -/
theorem add_law {l : List Card} {s : ByteArray} {d : Int} (h : addCode l s d = 0) : okCards (addL l s d) = true ∧ dropCode (addL l s d) s = 0 ∧ dropL (addL l s d) s = l := by
  have e : addL l s d = insB (ltN Card.name) l ⟨s, 0, d⟩ := by unfold addL; rw [if_pos h]
  unfold addCode at h
  split at h
  · rename_i hok
    split at h
    · rename_i hn
      split at h
      · rename_i hin
        split at h
        · rename_i hf
          split at h
          · exact absurd h (by decide)
          · rename_i hl
            have hne := findF_none l s 0 hf
            have hl40 := okCards_len hok
            have hperm := insB_perm (ltN Card.name) l ⟨s, 0, d⟩
            have hlen := insB_len (ltN Card.name) l ⟨s, 0, d⟩
            have hw := okCards_pw hok
            have hasc : Asc (ltN Card.name) l := by
              unfold Asc
              refine hw.imp ?_
              intro a b hab
              unfold ltN
              exact swo_asym (swo_ltN (β := Card) Card.name) (x := a) (y := b) hab
            have hasc2 := insB_asc (swo_ltN (β := Card) Card.name) hasc ⟨s, 0, d⟩
            have hdis : (insB (ltN Card.name) l ⟨s, 0, d⟩).Pairwise (fun a b => a.name ≠ b.name) := by
              refine (List.Perm.pairwise_iff (fun {a b} hab => Ne.symm hab) hperm).2 ?_
              refine List.pairwise_cons.2 ⟨fun c hc => Ne.symm (hne c hc), hw.imp ?_⟩
              intro a b hab he
              rw [he, lessB_irr] at hab
              exact absurd hab (by decide)
            have hpw : (insB (ltN Card.name) l ⟨s, 0, d⟩).Pairwise (fun a b => lessB a.name b.name = true) := by
              refine (hasc2.and hdis).imp ?_
              intro a b ⟨h1, h2⟩
              cases h3 : lessB a.name b.name
              · exact absurd (lessB_anti h3 h1) h2
              · rfl
            have hok2 : okCards (addL l s d) = true := by
              rw [e]
              refine okCards_of (fun c hc => ?_) hpw (by omega)
              rcases List.mem_cons.1 (hperm.mem_iff.1 hc) with rfl | h1
              · unfold goodC; simp only; rw [hn, hin]; rfl
              · exact okCards_good hok c h1
            have hp := posB_le (ltN Card.name) l ⟨s, 0, d⟩ l.length
            have hfind : findC (addL l s d) s = ((posB (ltN Card.name) l ⟨s, 0, d⟩ l.length : Nat) : Int) := by
              rw [e]; unfold findC insB
              rw [findF_mid _ _ _ s 0 (fun c hc => hne c (List.mem_of_mem_take hc)) rfl, List.length_take]
              congr 1; omega
            refine ⟨hok2, ?_, ?_⟩
            · unfold dropCode; rw [if_pos hok2, hfind, if_neg (by omega)]
            · unfold dropL; rw [if_pos hok2, hfind, if_neg (by omega), Int.toNat_natCast, e]
              unfold insB
              generalize posB (ltN Card.name) l ⟨s, 0, d⟩ l.length = p at *
              have h4 : (l.take p).length = p := by rw [List.length_take]; omega
              rw [List.take_left' h4, List.drop_append, h4, List.drop_eq_nil_of_le (by omega), List.nil_append, Nat.add_sub_cancel_left]
              simp
        · exact absurd h (by decide)
      · exact absurd h (by decide)
    · exact absurd h (by decide)
  · exact absurd h (by decide)
end Go.Proofs.Ytmffgmegbappiaa
