import Derived.Test.YtclffohjpbmnbaaGreatDoorMg37
import Derived.Test.YtclffohjpbmnbaaGreatDoorMg35
import Derived.Test.YtclffohjpbmnbaaGreatDoorMg16
/- QryL: plain: the text of a query, and what its reading says. -/
namespace Go.Proofs.YtclffohjpbmnbaaGreatDoor
open Go.ChangeShapes Go.WideShapes Go.ChangeAt Go.RowKit

theorem risesF_mem : ∀ (l : List Int) (p : Int), risesF p l = true → ∀ x ∈ l, 0 ≤ x ∧ x ≤ 15
  | [], _, _, x, hx => absurd hx List.not_mem_nil
  | y :: l, p, h, x, hx => by
    simp only [risesF, Bool.and_eq_true] at h
    rcases List.mem_cons.1 hx with rfl | hx
    · have := inB_true h.1; omega
    · exact risesF_mem l y h.2.2 x hx
theorem risesF_len : ∀ (l : List Int) (p : Int), -1 ≤ p → p ≤ 15 → risesF p l = true → (l.length : Int) ≤ 15 - p
  | [], p, h, h1, _ => by simp; omega
  | y :: l, p, h, h1, hr => by
    simp only [risesF, Bool.and_eq_true, decide_eq_true_eq] at hr
    have hy := inB_true hr.1
    have := risesF_len l y (by omega) (by omega) hr.2.2
    simp; omega
theorem okQ_need {q : Query} (h : okQueryB q = true) : (∀ x ∈ q.need, 0 ≤ x ∧ x ≤ 15) ∧ q.need.length ≤ 16 := by
  unfold okQueryB at h
  simp only [Bool.and_eq_true] at h
  exact ⟨risesF_mem _ _ h.2.2.2.1, by have := risesF_len _ _ (by omega) (by omega) h.2.2.2.1; omega⟩
theorem okQ_avoid {q : Query} (h : okQueryB q = true) : (∀ x ∈ q.avoid, 0 ≤ x ∧ x ≤ 15) ∧ q.avoid.length ≤ 16 := by
  unfold okQueryB at h
  simp only [Bool.and_eq_true] at h
  exact ⟨risesF_mem _ _ h.2.2.2.2, by have := risesF_len _ _ (by omega) (by omega) h.2.2.2.2; omega⟩
theorem okQ_in {q : Query} (h : okQueryB q = true) : (1 ≤ q.period ∧ q.period ≤ 12) ∧ (0 ≤ q.props ∧ q.props ≤ 15) ∧ (0 ≤ q.high ∧ q.high ≤ 15) := by
  unfold okQueryB at h
  simp only [Bool.and_eq_true] at h
  exact ⟨inB_true h.1, inB_true h.2.1, inB_true h.2.2.1⟩

def canonC : List Int := [99, 97, 110, 111, 110, 105, 99, 97, 108]
def qHead (q : Query) : List Int := chars (decB q.period) ++ (32 :: (chars (decB q.props) ++ (32 :: [hexV q.high])))
def qNeed (l : List Int) : List Int := if l = [] then [] else 32 :: 43 :: l.map hexV
def qAvoid (l : List Int) : List Int := if l = [] then [] else 32 :: 45 :: l.map hexV
def qCanon (b : Bool) : List Int := if b then 32 :: canonC else []
def qCh (q : Query) : List Int := qHead q ++ qNeed q.need ++ qAvoid q.avoid ++ qCanon q.canonical
def qTextB (q : Query) : ByteArray := if okQueryB q then strOfNums (qCh q) else ByteArray.empty
theorem qTextB_no {q : Query} (h : okQueryB q = false) : qTextB q = ByteArray.empty := by unfold qTextB; rw [h]; rfl
theorem qTextB_yes {q : Query} (h : okQueryB q = true) : qTextB q = strOfNums (qCh q) := by unfold qTextB; rw [h]; rfl
theorem qHead_str {q : Query} (h : okQueryB q = true) : decB q.period ++ (⟨#[32]⟩ : ByteArray) ++ decB q.props ++ (⟨#[32]⟩ : ByteArray) ++ strOfNums [hexV q.high] = strOfNums (qHead q) := by
  have hh := okQ_in h
  have hv := hexV_bd hh.2.2.1 hh.2.2.2
  have e1 : chars (⟨#[32]⟩ : ByteArray) = [32] := rfl
  rw [← strOf_chars (decB q.period ++ (⟨#[32]⟩ : ByteArray) ++ decB q.props ++ (⟨#[32]⟩ : ByteArray) ++ strOfNums [hexV q.high])]
  simp only [chars_append, e1]
  rw [chars_strOf (l := [hexV q.high]) (by intro x hx; simp at hx; omega)]
  unfold qHead; simp
theorem decB_small {n : Int} (h0 : 0 ≤ n) (h1 : n ≤ 15) : (chars (decB n)).length ≤ 2 ∧ (∀ x ∈ chars (decB n), 48 ≤ x ∧ x ≤ 57) := by
  obtain ⟨u, rfl⟩ : ∃ u : Nat, n = (u : Int) := ⟨n.toNat, by omega⟩
  rcases Nat.eq_zero_or_pos u with h | h
  · subst h
    rw [show ((0 : Nat) : Int) = 0 from rfl, decB_zero]
    refine ⟨by rw [chars_len]; decide, ?_⟩
    intro x hx
    have : x = 48 := by simpa [chars] using hx
    omega
  · rw [decB_pos h, chars_strOf (fun x hx => by have := dig0_in u u (Nat.le_refl _) x hx; omega)]
    exact ⟨dig0_len 2 u (by omega), dig0_in u u (Nat.le_refl _)⟩
theorem count_none {c : Int} {l : List Int} (h : ∀ x ∈ l, x ≠ c) : l.count c = 0 := List.count_eq_zero.2 (fun hc => h c hc rfl)
theorem qsplit_count (c : Int) : ∀ l : List Int, (splitL c l).length = l.count c + 1
  | [] => rfl
  | x :: l => by
    have ih := qsplit_count c l
    by_cases h : x = c
    · subst h; rw [splitL_eq, List.length_cons, ih, List.count_cons_self]
    · rw [splitL_neq h, List.length_cons, List.length_tail, ih, List.count_cons_of_ne h]; omega
theorem hexs_none {l : List Int} (h : ∀ x ∈ l, 0 ≤ x ∧ x ≤ 15) : (l.map hexV).count 32 = 0 := count_none (fun x hx => by
  obtain ⟨y, hy, rfl⟩ := List.mem_map.1 hx
  have := hexV_bd (h y hy).1 (h y hy).2
  omega)
theorem qHead_count {q : Query} (h : okQueryB q = true) : (qHead q).count 32 = 2 := by
  have hh := okQ_in h
  have hv := hexV_bd hh.2.2.1 hh.2.2.2
  unfold qHead
  rw [List.count_append, List.count_cons_self, List.count_append, List.count_cons_self, count_none (l := chars (decB q.period)) (fun x hx => by have := (decB_small (by omega) (by omega)).2 x hx; omega), count_none (l := chars (decB q.props)) (fun x hx => by have := (decB_small (by omega) (by omega)).2 x hx; omega), count_none (l := [hexV q.high]) (by intro x hx; simp at hx; omega)]
theorem qNeed_count {l : List Int} (h : ∀ x ∈ l, 0 ≤ x ∧ x ≤ 15) : (qNeed l).count 32 ≤ 1 := by
  unfold qNeed; split
  · simp
  · rw [List.count_cons_self, List.count_cons_of_ne (by decide), hexs_none h]; omega
theorem qAvoid_count {l : List Int} (h : ∀ x ∈ l, 0 ≤ x ∧ x ≤ 15) : (qAvoid l).count 32 ≤ 1 := by
  unfold qAvoid; split
  · simp
  · rw [List.count_cons_self, List.count_cons_of_ne (by decide), hexs_none h]; omega
theorem qCanon_count (b : Bool) : (qCanon b).count 32 ≤ 1 := by cases b <;> decide
theorem qCh_words {q : Query} (h : okQueryB q = true) : (splitL 32 (qCh q)).length ≤ 6 := by
  rw [qsplit_count]
  unfold qCh
  rw [List.count_append, List.count_append, List.count_append, qHead_count h]
  have h1 := qNeed_count (okQ_need h).1
  have h2 := qAvoid_count (okQ_avoid h).1
  have h3 := qCanon_count q.canonical
  omega
theorem qHead_len {q : Query} (h : okQueryB q = true) : (qHead q).length ≤ 7 := by
  have hh := okQ_in h
  have h1 := (decB_small (n := q.period) (by omega) (by omega)).1
  have h2 := (decB_small (n := q.props) (by omega) (by omega)).1
  unfold qHead
  simp only [List.length_append, List.length_cons, List.length_nil]; omega
theorem qNeed_len {l : List Int} (h : l.length ≤ 16) : (qNeed l).length ≤ 18 := by unfold qNeed; split <;> simp <;> omega
theorem qAvoid_len {l : List Int} (h : l.length ≤ 16) : (qAvoid l).length ≤ 18 := by unfold qAvoid; split <;> simp <;> omega
/-! ### Read -/
def qStep (q : Query) (x : List Int) : Query :=
  if x = canonC then ⟨q.period, q.props, q.high, q.need, q.avoid, true⟩
  else if x ≠ [] ∧ nth x 0 = 43 then ⟨q.period, q.props, q.high, (x.drop 1).map hexN, q.avoid, q.canonical⟩
  else if x ≠ [] ∧ nth x 0 = 45 then ⟨q.period, q.props, q.high, q.need, (x.drop 1).map hexN, q.canonical⟩
  else q
def qZero : Query := ⟨0, 0, 0, [], [], false⟩
def qRead (W : List (List Int)) : Query := (W.drop 3).foldl qStep ⟨numN (nth W 0), numN (nth W 1), hexN (nth (nth W 2) 0), [], [], false⟩
def rqShape (W : List (List Int)) : Bool := decide (3 ≤ W.length) && decide ((nth W 2).length = 1)
def rqOk (cs : List Int) : Bool := rqShape (splitL 32 cs) && (numOk (nth (splitL 32 cs) 0) && (numOk (nth (splitL 32 cs) 1) && (okQueryB (qRead (splitL 32 cs)) && decide (qCh (qRead (splitL 32 cs)) = cs))))
def rqQ (cs : List Int) : Query := if rqOk cs then qRead (splitL 32 cs) else qZero
theorem rqOk_few {cs : List Int} (h : (splitL 32 cs).length < 3) : rqOk cs = false := by unfold rqOk rqShape; rw [decide_eq_false (by omega)]; rfl
theorem rqOk_wide {cs : List Int} (h : (nth (splitL 32 cs) 2).length ≠ 1) : rqOk cs = false := by unfold rqOk rqShape; rw [decide_eq_false h]; simp
theorem rqOk_many {cs : List Int} (h : 6 < (splitL 32 cs).length) : rqOk cs = false := by
  cases hr : rqOk cs
  · rfl
  · unfold rqOk at hr
    simp only [Bool.and_eq_true, decide_eq_true_eq] at hr
    have h1 := qCh_words hr.2.2.2.1
    rw [hr.2.2.2.2] at h1; omega
theorem rqOk_eq {cs : List Int} (h3 : 3 ≤ (splitL 32 cs).length) (h1 : (nth (splitL 32 cs) 2).length = 1) :
    rqOk cs = (numOk (nth (splitL 32 cs) 0) && (numOk (nth (splitL 32 cs) 1) && (okQueryB (qRead (splitL 32 cs)) && decide (qCh (qRead (splitL 32 cs)) = cs)))) := by
  unfold rqOk rqShape; rw [decide_eq_true h3, decide_eq_true h1]; rfl
theorem rqQ_no {cs : List Int} (h : rqOk cs = false) : rqQ cs = qZero := by unfold rqQ; rw [h]; rfl
theorem rqQ_yes {cs : List Int} (h : rqOk cs = true) : rqQ cs = qRead (splitL 32 cs) := by unfold rqQ; rw [h]; rfl
theorem canonC_in : ∀ x ∈ canonC, 0 ≤ x ∧ x ≤ 255 := by unfold canonC; intro x hx; simp at hx; omega
theorem qCh_in {q : Query} (h : okQueryB q = true) : ∀ x ∈ qCh q, 0 ≤ x ∧ x ≤ 255 := by
  have hh := okQ_in h
  have hv := hexV_bd hh.2.2.1 hh.2.2.2
  have hm : ∀ l : List Int, (∀ x ∈ l, 0 ≤ x ∧ x ≤ 15) → ∀ x ∈ l.map hexV, 0 ≤ x ∧ x ≤ 255 := fun l hl => hex_bytes hl
  have hc := canonC_in
  intro x hx
  unfold qCh at hx
  rcases List.mem_append.1 hx with hx | hx
  · rcases List.mem_append.1 hx with hx | hx
    · rcases List.mem_append.1 hx with hx | hx
      · unfold qHead at hx
        rcases List.mem_append.1 hx with hx | hx
        · exact chars_in _ x hx
        · rcases List.mem_cons.1 hx with rfl | hx
          · omega
          · rcases List.mem_append.1 hx with hx | hx
            · exact chars_in _ x hx
            · simp at hx; omega
      · unfold qNeed at hx; split at hx
        · exact absurd hx List.not_mem_nil
        · rcases List.mem_cons.1 hx with rfl | hx
          · omega
          · rcases List.mem_cons.1 hx with rfl | hx
            · omega
            · exact hm _ (okQ_need h).1 x hx
    · unfold qAvoid at hx; split at hx
      · exact absurd hx List.not_mem_nil
      · rcases List.mem_cons.1 hx with rfl | hx
        · omega
        · rcases List.mem_cons.1 hx with rfl | hx
          · omega
          · exact hm _ (okQ_avoid h).1 x hx
  · unfold qCanon at hx; split at hx
    · rcases List.mem_cons.1 hx with rfl | hx
      · omega
      · exact hc x hx
    · exact absurd hx List.not_mem_nil
/-- The text of what has been read, held against what it was read from. -/
theorem qText_is {q : Query} {s : ByteArray} (hs : 0 < s.size) : ((qTextB q).toList == s.toList) = (okQueryB q && decide (qCh q = chars s)) := by
  rw [beq_bytes]
  cases h : okQueryB q
  · rw [qTextB_no h]
    refine decide_eq_false (fun e => ?_)
    rw [← e] at hs; exact absurd hs (by decide)
  · rw [qTextB_yes h]
    rw [Bool.true_and]
    refine decide_eq_decide.2 ⟨fun e => ?_, fun e => ?_⟩
    · rw [← e, chars_strOf (qCh_in h)]
    · rw [e, strOf_chars]
theorem qStep_fix (q : Query) (x : List Int) : (qStep q x).period = q.period ∧ (qStep q x).props = q.props ∧ (qStep q x).high = q.high := by
  unfold qStep; split <;> (try split) <;> (try split) <;> exact ⟨rfl, rfl, rfl⟩
end Go.Proofs.YtclffohjpbmnbaaGreatDoor

/- QryRt: plain: a query is read back from its text. -/
namespace Go.Proofs.YtclffohjpbmnbaaGreatDoor
open Go.ChangeShapes Go.WideShapes Go.ChangeAt Go.RowKit

instance instLIqry : Inhabited (List Int) := ⟨[]⟩
theorem split_words : ∀ (R : List (List Int)) (a : List Int), (∀ x ∈ a, x ≠ 32) → (∀ p ∈ R, ∀ x ∈ p, x ≠ 32) → splitL 32 (a ++ R.flatMap (fun p => 32 :: p)) = a :: R
  | [], a, ha, _ => by rw [List.flatMap_nil, List.append_nil, split_one 32 a ha]
  | p :: R, a, ha, h => by
    rw [List.flatMap_cons, List.cons_append, split_app 32 a _ ha, split_words R p (h p (List.mem_cons_self ..)) (fun q hq => h q (List.mem_cons_of_mem _ hq))]
def nWord (l : List Int) : List (List Int) := if l = [] then [] else [43 :: l.map hexV]
def aWord (l : List Int) : List (List Int) := if l = [] then [] else [45 :: l.map hexV]
def cWord (b : Bool) : List (List Int) := if b then [canonC] else []
def qWords (q : Query) : List (List Int) := chars (decB q.props) :: [hexV q.high] :: (nWord q.need ++ (aWord q.avoid ++ cWord q.canonical))
theorem qCh_words2 (q : Query) : qCh q = chars (decB q.period) ++ (qWords q).flatMap (fun p => 32 :: p) := by
  unfold qCh qHead qWords
  have e1 : qNeed q.need = (nWord q.need).flatMap (fun p => 32 :: p) := by unfold qNeed nWord; split <;> simp
  have e2 : qAvoid q.avoid = (aWord q.avoid).flatMap (fun p => 32 :: p) := by unfold qAvoid aWord; split <;> simp
  have e3 : qCanon q.canonical = (cWord q.canonical).flatMap (fun p => 32 :: p) := by unfold qCanon cWord; split <;> simp
  rw [e1, e2, e3]
  simp only [List.flatMap_cons, List.flatMap_append, List.append_assoc, List.cons_append, List.nil_append]
theorem nWord_fold (q : Query) (l : List Int) (h : ∀ x ∈ l, 0 ≤ x ∧ x ≤ 15) : (nWord l).foldl qStep q = if l = [] then q else ⟨q.period, q.props, q.high, l, q.avoid, q.canonical⟩ := by
  unfold nWord
  split
  · rfl
  · have h1 : ¬ (43 :: l.map hexV) = canonC := by unfold canonC; simp
    show qStep q (43 :: l.map hexV) = _
    unfold qStep
    rw [if_neg h1, if_pos ⟨by simp, by rw [nth_cons_zero]⟩]
    rw [List.drop_succ_cons, List.drop_zero, hexs_back h]
theorem aWord_fold (q : Query) (l : List Int) (h : ∀ x ∈ l, 0 ≤ x ∧ x ≤ 15) : (aWord l).foldl qStep q = if l = [] then q else ⟨q.period, q.props, q.high, q.need, l, q.canonical⟩ := by
  unfold aWord
  split
  · rfl
  · have h1 : ¬ (45 :: l.map hexV) = canonC := by unfold canonC; simp
    show qStep q (45 :: l.map hexV) = _
    unfold qStep
    rw [if_neg h1, if_neg (by rw [nth_cons_zero]; simp), if_pos ⟨by simp, by rw [nth_cons_zero]⟩]
    rw [List.drop_succ_cons, List.drop_zero, hexs_back h]
theorem cWord_fold (q : Query) (b : Bool) : (cWord b).foldl qStep q = if b then ⟨q.period, q.props, q.high, q.need, q.avoid, true⟩ else q := by
  unfold cWord
  cases b
  · rfl
  · show qStep q canonC = _
    unfold qStep; rw [if_pos rfl]; rfl
theorem qry_rt {q : Query} (h : okQueryB q = true) : rqOk (qCh q) = true ∧ rqQ (qCh q) = q := by
  have hin := okQ_in h
  have hN := okQ_need h
  have hA := okQ_avoid h
  obtain ⟨-, -, a3, -⟩ := dec_chars (n := q.period) (by omega) (by omega)
  obtain ⟨-, -, b3, -⟩ := dec_chars (n := q.props) (by omega) (by omega)
  have a := num_dec (n := q.period) (by omega) (by omega)
  have b := num_dec (n := q.props) (by omega) (by omega)
  have hv := hexV_bd hin.2.2.1 hin.2.2.2
  have hs : splitL 32 (qCh q) = chars (decB q.period) :: qWords q := by
    rw [qCh_words2]
    refine split_words _ _ (fun x hx => by have := a3 x hx; omega) ?_
    intro p hp x hx
    unfold qWords at hp
    rcases List.mem_cons.1 hp with rfl | hp
    · have := b3 x hx; omega
    · rcases List.mem_cons.1 hp with rfl | hp
      · simp at hx; omega
      · rcases List.mem_append.1 hp with hp | hp
        · unfold nWord at hp
          split at hp
          · exact absurd hp List.not_mem_nil
          · simp at hp; subst hp
            rcases List.mem_cons.1 hx with rfl | hx
            · omega
            · exact (hexs_mem hN.1 x hx).1
        · rcases List.mem_append.1 hp with hp | hp
          · unfold aWord at hp
            split at hp
            · exact absurd hp List.not_mem_nil
            · simp at hp; subst hp
              rcases List.mem_cons.1 hx with rfl | hx
              · omega
              · exact (hexs_mem hA.1 x hx).1
          · unfold cWord at hp
            split at hp
            · simp at hp; subst hp
              unfold canonC at hx; simp at hx; omega
            · exact absurd hp List.not_mem_nil
  have h0 : nth (splitL 32 (qCh q)) 0 = chars (decB q.period) := by rw [hs]; rfl
  have h1 : nth (splitL 32 (qCh q)) 1 = chars (decB q.props) := by rw [hs]; rfl
  have h2 : nth (splitL 32 (qCh q)) 2 = [hexV q.high] := by rw [hs]; rfl
  have hr : qRead (splitL 32 (qCh q)) = q := by
    unfold qRead
    rw [h0, h1, h2, a.2, b.2, nth_cons_zero, hexN_hexV hin.2.2.1 hin.2.2.2, hs]
    show (nWord q.need ++ (aWord q.avoid ++ cWord q.canonical)).foldl qStep _ = q
    rw [List.foldl_append, List.foldl_append, nWord_fold _ _ hN.1, aWord_fold _ _ hA.1, cWord_fold]
    obtain ⟨p, r, g, N, A, c⟩ := q
    dsimp only
    cases N <;> cases A <;> cases c <;> rfl
  have hok : rqOk (qCh q) = true := by
    unfold rqOk rqShape
    rw [h0, h1, h2, a.1, b.1, hr, h, decide_eq_true rfl]
    have : 3 ≤ (splitL 32 (qCh q)).length := by rw [hs]; unfold qWords; simp
    rw [decide_eq_true this]; rfl
  exact ⟨hok, by rw [rqQ_yes hok, hr]⟩
theorem rq_empty : rqOk [] = false := rqOk_few (by simp [splitL])
theorem qCh_ne (q : Query) : qCh q ≠ [] := by unfold qCh qHead; simp
end Go.Proofs.YtclffohjpbmnbaaGreatDoor
