import Derived.Test.YthdejhningghcaaMg20
import Derived.Test.YthdejhningghcaaMg7
/- PrimeN: plain: both searches for prime patterns give the same list. -/
namespace Go.Proofs.Ythdejhningghcaa
open Go.RowKit

/-! ### Lists in strict order -/
def SA (l : List (List Int)) : Prop := l.Pairwise fun a b => cmpL a b < 0
theorem sa_nodup {l : List (List Int)} (h : SA l) : l.Nodup := List.Pairwise.imp (fun {a b} h e => by rw [e, cmpL_self] at h; omega) h
theorem sa_eq {l m : List (List Int)} (hl : SA l) (hm : SA m) (h : ∀ x, x ∈ l ↔ x ∈ m) : l = m := by
  have hp : l.Perm m := (List.perm_ext_iff_of_nodup (sa_nodup hl) (sa_nodup hm)).2 h
  refine List.Perm.eq_of_pairwise (fun a b _ _ h1 h2 => ?_) hl hm hp
  have := cmpL_swp a b
  omega
theorem nodup_sub' {l m : List (List Int)} : l.Nodup → (∀ x ∈ l, x ∈ m) → l.length ≤ m.length := by
  induction l generalizing m with
  | nil => intro _ _; simp
  | cons x l ih =>
    intro hn hs
    obtain ⟨h1, h2⟩ := List.nodup_cons.1 hn
    have hx := hs x (List.mem_cons_self ..)
    have h3 := ih (m := m.erase x) h2 (fun y hy => (List.mem_erase_of_ne (fun e : y = x => h1 (by rw [← e]; exact hy))).2 (hs y (List.mem_cons_of_mem _ hy)))
    rw [List.length_erase_of_mem hx] at h3
    have := List.length_pos_of_mem hx
    simp only [List.length_cons]; omega
/-! ### What is put in -/
abbrev PSt := List (List Int) × Bool
def posC (l : List (List Int)) (x : List Int) : Nat → Nat
  | 0 => 0
  | k + 1 => if cmpL (nth l k) x < 0 then k + 1 else posC l x k
def addO (o : List (List Int)) (c : List Int) : PSt :=
  if posC o c o.length < o.length ∧ nth o (posC o c o.length) = c then (o, false) else if 30 ≤ o.length then (o, true) else (o.take (posC o c o.length) ++ c :: o.drop (posC o c o.length), false)
def addP (st : PSt) (q : List Int) : PSt := if st.2 then st else addO st.1 (canL q)
theorem posC_le (l : List (List Int)) (x : List Int) : ∀ k, posC l x k ≤ k
  | 0 => Nat.le_refl _
  | k + 1 => by
    unfold posC; split
    · exact Nat.le_refl _
    · exact Nat.le_succ_of_le (posC_le l x k)
theorem posC_ge (l : List (List Int)) (x : List Int) : ∀ k i, posC l x k ≤ i → i < k → ¬ cmpL (nth l i) x < 0
  | 0, i, _, h => absurd h (Nat.not_lt_zero _)
  | k + 1, i, h1, h2 => by
    unfold posC at h1
    split at h1
    · omega
    · rename_i h
      rcases Nat.lt_succ_iff_lt_or_eq.1 h2 with h3 | rfl
      · exact posC_ge l x k i h1 h3
      · exact h
theorem posC_at (l : List (List Int)) (x : List Int) : ∀ k, 0 < posC l x k → cmpL (nth l (posC l x k - 1)) x < 0
  | 0, h => absurd h (Nat.not_lt_zero _)
  | k + 1, h => by
    unfold posC at h ⊢
    split
    · rename_i h1; exact h1
    · rename_i h1; rw [if_neg h1] at h; exact posC_at l x k h
theorem sa_nth {l : List (List Int)} (h : SA l) {i j : Nat} (hij : i < j) (hj : j < l.length) : cmpL (nth l i) (nth l j) < 0 := by
  rw [nth_eq l i (by omega), nth_eq l j hj]
  exact (List.pairwise_iff_getElem.1 h) i j (by omega) hj hij
theorem posC_lt {l : List (List Int)} (h : SA l) (x : List Int) {i : Nat} (hi : i < posC l x l.length) : cmpL (nth l i) x < 0 := by
  have h1 := posC_at l x l.length (by omega)
  have h2 := posC_le l x l.length
  rcases Nat.lt_or_ge i (posC l x l.length - 1) with h3 | h3
  · exact cmpL_lt_trans (sa_nth h h3 (by omega)) h1
  · have e : i = posC l x l.length - 1 := by omega
    rw [e]; exact h1
theorem pos_mem {l : List (List Int)} (h : SA l) {x : List Int} (hx : x ∈ l) : posC l x l.length < l.length ∧ nth l (posC l x l.length) = x := by
  obtain ⟨i, hi, e⟩ := List.getElem_of_mem hx
  rw [← nth_eq l i hi] at e
  have h1 : posC l x l.length ≤ i := by
    refine Nat.le_of_not_lt fun h2 => ?_
    have := posC_lt h x h2
    rw [e, cmpL_self] at this; omega
  refine ⟨by omega, ?_⟩
  rcases Nat.lt_or_ge (posC l x l.length) i with h2 | h2
  · have h3 := sa_nth h h2 hi
    rw [e] at h3
    exact absurd h3 (posC_ge l x l.length _ (Nat.le_refl _) (by omega))
  · rw [show posC l x l.length = i by omega]; exact e
theorem sa_put {l : List (List Int)} (h : SA l) {x : List Int} (hx : x ∉ l) : SA (l.take (posC l x l.length) ++ x :: l.drop (posC l x l.length)) := by
  have hk := posC_le l x l.length
  have hlt := fun i => posC_lt h x (i := i)
  have hge := posC_ge l x l.length
  generalize posC l x l.length = k at *
  have hd : ∀ y ∈ l.drop k, cmpL x y < 0 := by
    intro y hy
    obtain ⟨i, hi, rfl⟩ := List.getElem_of_mem hy
    rw [List.length_drop] at hi
    rw [List.getElem_drop, ← nth_eq l (k + i) (by omega)]
    have h1 := hge (k + i) (by omega) (by omega)
    have h2 := cmpL_swp (nth l (k + i)) x
    have h3 : cmpL (nth l (k + i)) x ≠ 0 := fun e => hx (by rw [← cmpL_zero e]; exact mem_nth (by omega))
    omega
  have ht : ∀ y ∈ l.take k, cmpL y x < 0 := by
    intro y hy
    obtain ⟨i, hi, rfl⟩ := List.getElem_of_mem hy
    rw [List.length_take] at hi
    rw [List.getElem_take, ← nth_eq l i (by omega)]
    exact hlt i (by omega)
  have h0 := h
  unfold SA at h0 ⊢
  rw [← List.take_append_drop k l, List.pairwise_append] at h0
  refine List.pairwise_append.2 ⟨h0.1, List.pairwise_cons.2 ⟨hd, h0.2.1⟩, fun a ha b hb => ?_⟩
  rcases List.mem_cons.1 hb with rfl | hb
  · exact ht a ha
  · exact h0.2.2 a ha b hb
structure PInv (S : List (List Int)) (st : PSt) : Prop where
  sa : SA st.1
  le : st.1.length ≤ 30
  sub : ∀ x ∈ st.1, x ∈ S
  all : st.2 = false → ∀ x ∈ S, x ∈ st.1
  full : st.2 = true → st.1.length = 30 ∧ ∃ y ∈ S, y ∉ st.1
theorem pinv_step {S : List (List Int)} {st : PSt} (h : PInv S st) (q : List Int) : PInv (S ++ [canL q]) (addP st q) := by
  obtain ⟨o, f⟩ := st
  have hsa := h.sa
  have hle := h.le
  have hsub := h.sub
  have hall := h.all
  have hful := h.full
  dsimp only at hsa hle hsub hall hful
  unfold addP
  cases f
  · rw [if_neg (by simp)]
    unfold addO
    dsimp only
    by_cases hm : canL q ∈ o
    · rw [if_pos (pos_mem hsa hm)]
      exact ⟨hsa, hle, fun x hx => List.mem_append_left _ (hsub x hx), fun _ x hx => by
        rcases List.mem_append.1 hx with h1 | h1
        · exact hall rfl x h1
        · rw [List.mem_singleton.1 h1]; exact hm, fun h1 => absurd h1 (by simp)⟩
    · rw [if_neg (fun hc => hm (by rw [← hc.2]; exact mem_nth hc.1))]
      by_cases h30 : 30 ≤ o.length
      · rw [if_pos h30]
        exact ⟨hsa, hle, fun x hx => List.mem_append_left _ (hsub x hx), fun h1 => absurd h1 (by simp), fun _ => ⟨by show o.length = 30; omega, canL q, by simp, hm⟩⟩
      · rw [if_neg h30]
        have hput : ∀ x, x ∈ o.take (posC o (canL q) o.length) ++ canL q :: o.drop (posC o (canL q) o.length) ↔ x = canL q ∨ x ∈ o := by
          intro x
          conv => rhs; rhs; rw [← List.take_append_drop (posC o (canL q) o.length) o]
          simp only [List.mem_append, List.mem_cons]
          constructor
          · rintro (h1 | h1 | h1)
            · exact .inr (.inl h1)
            · exact .inl h1
            · exact .inr (.inr h1)
          · rintro (h1 | h1 | h1)
            · exact .inr (.inl h1)
            · exact .inl h1
            · exact .inr (.inr h1)
        refine ⟨sa_put hsa hm, ?_, fun x hx => ?_, fun _ x hx => ?_, fun h1 => absurd h1 (by simp)⟩
        · have := posC_le o (canL q) o.length
          simp only [List.length_append, List.length_take, List.length_cons, List.length_drop]; omega
        · rcases (hput x).1 hx with rfl | h1
          · simp
          · exact List.mem_append_left _ (hsub x h1)
        · refine (hput x).2 ?_
          rcases List.mem_append.1 hx with h1 | h1
          · exact .inr (hall rfl x h1)
          · exact .inl (List.mem_singleton.1 h1)
  · rw [if_pos rfl]
    obtain ⟨h1, y, h2, h3⟩ := hful rfl
    exact ⟨hsa, hle, fun x hx => List.mem_append_left _ (hsub x hx), fun h4 => absurd h4 (by simp), fun _ => ⟨h1, y, List.mem_append_left _ h2, h3⟩⟩
theorem pinv_fold : ∀ (L : List (List Int)) (S : List (List Int)) (st : PSt), PInv S st → PInv (S ++ L.map canL) (L.foldl addP st)
  | [], S, st, h => by simpa using h
  | q :: L, S, st, h => by
    have := pinv_fold L _ _ (pinv_step h q)
    rw [List.append_assoc] at this
    exact this
/-! ### The search of the package spec, with its end -/
def wS (H start : Nat) : Nat → Nat → List Nat → List Int → PSt → PSt
  | 0, x, _, th, st => if x = start then addP st th else st
  | d + 1, x, seen, th, st => (throwsM H x).foldl (fun st t => if st.2 then st else if skipM start d x t seen then st else wS H start d (nextM x t) (seen ++ [nextM x t]) (th ++ [(t : Int)]) st) st
theorem fold_full : ∀ (L : List (List Int)) (st : PSt), st.2 = true → L.foldl addP st = st
  | [], _, _ => rfl
  | q :: L, st, h => by
    have : addP st q = st := by unfold addP; rw [if_pos h]
    rw [List.foldl_cons, this, fold_full L st h]
theorem wS_eq (H start : Nat) : ∀ (d x : Nat) (seen : List Nat) (th : List Int) (st : PSt), wS H start d x seen th st = (dfs H start d x seen th).foldl addP st
  | 0, x, seen, th, st => by
    unfold wS dfs
    split <;> simp
  | d + 1, x, seen, th, st => by
    unfold wS dfs
    generalize throwsM H x = ts
    induction ts generalizing st with
    | nil => rfl
    | cons t ts ih =>
      rw [List.foldl_cons, List.flatMap_cons, List.foldl_append, ih]
      congr 1
      by_cases hf : st.2 = true
      · rw [if_pos hf, fold_full _ _ hf]
      · rw [if_neg hf]
        split
        · rfl
        · exact wS_eq H start d _ _ _ st
def specS (N H P : Nat) : PSt := (masksM N H).foldl (fun st m => if st.2 then st else wS H m P m [m] [] st) ([], false)
theorem specS_eq (N H P : Nat) : specS N H P = (foundM N H P).foldl addP ([], false) := by
  unfold specS foundM
  generalize (([], false) : PSt) = st
  generalize masksM N H = ms
  induction ms generalizing st with
  | nil => rfl
  | cons m ms ih =>
    rw [List.foldl_cons, List.flatMap_cons, List.foldl_append, ih]
    congr 1
    by_cases hf : st.2 = true
    · rw [if_pos hf, fold_full _ _ hf]
    · rw [if_neg hf, wS_eq]
/-! ### The search of the package impl -/
/-- Where the throws of a beginning land. -/
def lndN (n : Nat) (pre : List Int) : List Nat := (List.range pre.length).map fun i => (i + (nth pre i).toNat) % n
theorem nth_snoc_lt' {α : Type} [Inhabited α] (l : List α) (x : α) (i : Nat) (h : i < l.length) : nth (l ++ [x]) i = nth l i := by
  unfold nth; simp [List.getD, List.getElem?_append_left h]
theorem nth_snoc_eq' {α : Type} [Inhabited α] (l : List α) (x : α) : nth (l ++ [x]) l.length = x := by
  unfold nth; simp [List.getD]
theorem lndN_snoc (n : Nat) (pre : List Int) (t : Nat) : lndN n (pre ++ [(t : Int)]) = lndN n pre ++ [(pre.length + t) % n] := by
  unfold lndN
  rw [List.length_append, List.length_singleton, List.range_succ, List.map_append]
  congr 1
  · apply List.map_congr_left
    intro i hi
    rw [nth_snoc_lt' _ _ _ (List.mem_range.1 hi)]
  · rw [List.map_cons, List.map_nil, nth_snoc_eq', Int.toNat_natCast]
def eachF (H P : Nat) : Nat → List Int → Nat → List (List Int)
  | 0, pre, left => if left = 0 then [pre] else []
  | d + 1, pre, left => (List.range' (left - d * H) (min H left + 1 - (left - d * H))).flatMap fun t => if (pre.length + t) % P ∈ lndN P pre then [] else eachF H P d (pre ++ [(t : Int)]) (left - t)
def runFree (P : Nat) : List Int → List Nat → Prop
  | _, [] => True
  | pre, t :: ts => (pre.length + t) % P ∉ lndN P pre ∧ runFree P (pre ++ [(t : Int)]) ts
theorem sum_le' (H : Nat) : ∀ ts : List Nat, (∀ t ∈ ts, t ≤ H) → ts.sum ≤ ts.length * H
  | [], _ => by simp
  | t :: ts, h => by
    have h1 := sum_le' H ts (fun x hx => h x (List.mem_cons_of_mem _ hx))
    have h2 := h t (List.mem_cons_self ..)
    rw [List.sum_cons, List.length_cons, Nat.succ_mul]; omega
theorem mem_each (H P : Nat) : ∀ (d : Nat) (pre : List Int) (left : Nat) (y : List Int), y ∈ eachF H P d pre left ↔ ∃ ts : List Nat, ts.length = d ∧ y = pre ++ ts.map (fun t : Nat => (t : Int)) ∧ (∀ t ∈ ts, t ≤ H) ∧ ts.sum = left ∧ runFree P pre ts
  | 0, pre, left, y => by
    unfold eachF
    constructor
    · intro h
      split at h
      · rename_i h0
        exact ⟨[], rfl, by simpa using h, fun t ht => absurd ht List.not_mem_nil, by simp [h0], trivial⟩
      · exact absurd h List.not_mem_nil
    · rintro ⟨ts, hl, he, -, hs, -⟩
      obtain rfl := List.eq_nil_of_length_eq_zero hl
      have h0 : left = 0 := by simpa using hs.symm
      rw [if_pos h0]
      simpa using he
  | d + 1, pre, left, y => by
    unfold eachF
    rw [List.mem_flatMap]
    constructor
    · rintro ⟨t, ht, hy⟩
      have h1 := List.mem_range'_1.1 ht
      split at hy
      · exact absurd hy List.not_mem_nil
      · rename_i hf
        obtain ⟨ts, hl, he, hle, hs, hr⟩ := (mem_each H P d _ _ y).1 hy
        refine ⟨t :: ts, by simp [hl], by rw [he]; simp, fun x hx => ?_, by rw [List.sum_cons, hs]; omega, hf, hr⟩
        rcases List.mem_cons.1 hx with rfl | hx
        · omega
        · exact hle x hx
    · rintro ⟨ts, hl, he, hle, hs, hr⟩
      cases ts with
      | nil => simp at hl
      | cons t ts =>
        have hl : ts.length = d := by simpa using hl
        rw [List.sum_cons] at hs
        have h1 := sum_le' H ts (fun x hx => hle x (List.mem_cons_of_mem _ hx))
        have h2 := hle t (List.mem_cons_self ..)
        rw [hl] at h1
        refine ⟨t, List.mem_range'_1.2 (by omega), ?_⟩
        rw [if_neg hr.1]
        exact (mem_each H P d _ _ y).2 ⟨ts, hl, by rw [he]; simp, fun x hx => hle x (List.mem_cons_of_mem _ hx), by omega, hr.2⟩
theorem run_free_iff (P : Nat) : ∀ (ts : List Nat) (pre : List Int), ((lndN P pre).Nodup ∧ runFree P pre ts) ↔ (lndN P (pre ++ ts.map (fun t : Nat => (t : Int)))).Nodup
  | [], pre => by simp [runFree]
  | t :: ts, pre => by
    have ih := run_free_iff P ts (pre ++ [(t : Int)])
    rw [List.map_cons, show pre ++ (t : Int) :: ts.map (fun t : Nat => (t : Int)) = pre ++ [(t : Int)] ++ ts.map (fun t : Nat => (t : Int)) by simp, ← ih, lndN_snoc, List.nodup_append]
    simp only [runFree]
    constructor
    · rintro ⟨h1, h2, h3⟩
      exact ⟨⟨h1, by simp, fun a ha b hb e => by rw [List.mem_singleton.1 hb] at e; exact h2 (e ▸ ha)⟩, h3⟩
    · rintro ⟨⟨h1, -, h2⟩, h3⟩
      exact ⟨h1, fun hm => h2 _ hm _ (List.mem_singleton.2 rfl) rfl, h3⟩
theorem each_sa (H P : Nat) : ∀ (d : Nat) (pre : List Int) (left : Nat), SA (eachF H P d pre left)
  | 0, pre, left => by unfold eachF SA; split <;> simp
  | d + 1, pre, left => by
    unfold eachF SA
    rw [List.pairwise_flatMap]
    refine ⟨fun t _ => ?_, List.Pairwise.imp (fun {s t} hst x hx y hy => ?_) List.pairwise_lt_range'⟩
    · split
      · exact List.Pairwise.nil
      · exact each_sa H P d _ _
    · split at hx
      · exact absurd hx List.not_mem_nil
      · split at hy
        · exact absurd hy List.not_mem_nil
        · obtain ⟨ts, hl, he, -⟩ := (mem_each H P d _ _ x).1 hx
          obtain ⟨us, hl2, he2, -⟩ := (mem_each H P d _ _ y).1 hy
          have pre_lt : ∀ (p : List Int) (s t : Int) (u v : List Int), s < t → cmpF (p ++ s :: u) (p ++ t :: v) = -1 := by
            intro p
            induction p with
            | nil => intro s t u v h; simp [cmpF, h]
            | cons x p ih => intro s t u v h; simp [cmpF, ih s t u v h]
          rw [he, he2, List.append_assoc, List.append_assoc]
          unfold cmpL
          have e : (pre ++ ([(s : Int)] ++ ts.map (fun t : Nat => (t : Int)))).length = (pre ++ ([(t : Int)] ++ us.map (fun t : Nat => (t : Int)))).length := by simp [hl, hl2]
          rw [if_neg (by omega), if_neg (by omega)]
          have := pre_lt pre (s : Int) (t : Int) (ts.map (fun t : Nat => (t : Int))) (us.map (fun t : Nat => (t : Int))) (by omega)
          show cmpF _ _ < 0
          simp only [List.singleton_append]
          rw [this]; decide
/-! ### Prime patterns -/
def ownH (p : List Int) : Nat := if (maxF p 0).toNat < 1 then 1 else (maxF p 0).toNat
def rowApart (p : List Int) (k : Nat) : Bool := (List.range k).all fun i => !(maskTo p i (ownH p) == maskTo p k (ownH p))
def primeB (p : List Int) : Bool := (List.range p.length).all fun k => rowApart p k
def implT (p : List Int) : Bool := primeB p && same2 eqI (canL p) p
def implL (N H P : Nat) : List (List Int) := (eachF H P P [] (N * P)).filter implT
theorem mask_high {p : List Int} {h H : Nat} (h1 : ∀ x ∈ p, x ≤ (h : Int)) (h2 : ∀ x ∈ p, x ≤ (H : Int)) (b : Nat) : maskTo p b h = maskTo p b H := by
  refine Nat.eq_of_testBit_eq fun k => ?_
  rw [maskTo_bit, maskTo_bit]
  have e1 := fromV_le h1 (b + k)
  have e2 := fromV_le h2 (b + k)
  unfold bitP
  by_cases hk : k < fromV p (b + k)
  · rw [decide_eq_true (show k < h by omega), decide_eq_true (show k < H by omega)]
  · rw [decide_eq_false hk, Bool.and_false, Bool.and_false]
theorem max_ge : ∀ (l : List Int) (s : Int), s ≤ maxF l s ∧ ∀ x ∈ l, x ≤ maxF l s
  | [], s => ⟨Int.le_refl _, fun x hx => absurd hx List.not_mem_nil⟩
  | y :: l, s => by
    obtain ⟨h1, h2⟩ := max_ge l (mx s y)
    have h3 : s ≤ mx s y ∧ y ≤ mx s y := by unfold mx; split <;> omega
    refine ⟨by show s ≤ maxF l (mx s y); omega, fun x hx => ?_⟩
    show x ≤ maxF l (mx s y)
    rcases List.mem_cons.1 hx with rfl | hx
    · omega
    · exact h2 x hx
theorem ownH_ge (p : List Int) : ∀ x ∈ p, x ≤ (ownH p : Int) := by
  intro x hx
  have h1 := (max_ge p 0).1
  have := (max_ge p 0).2 x hx
  unfold ownH; split <;> omega
theorem primeB_iff {p : List Int} {H : Nat} (hH : ∀ x ∈ p, x ≤ (H : Int)) : primeB p = true ↔ ∀ i j, i < j → j < p.length → maskTo p i H ≠ maskTo p j H := by
  have hm := fun b => mask_high (ownH_ge p) hH b
  unfold primeB rowApart
  simp only [List.all_eq_true, List.mem_range, hm]
  constructor
  · intro h i j hij hj e
    have := h j hj i hij
    rw [e] at this; simp at this
  · intro h j hj i hij
    have := h i j hij hj
    simp [this]
theorem sum_cast : ∀ (ts : List Nat), sumF (ts.map (fun t : Nat => (t : Int))) 0 = ((ts.sum : Nat) : Int)
  | [] => rfl
  | t :: ts => by
    simp only [List.map_cons, sumF, List.sum_cons]
    rw [sumF_shift, sum_cast ts]; omega
theorem cast_back : ∀ {p : List Int}, (∀ x ∈ p, 0 ≤ x) → (p.map Int.toNat).map (fun t : Nat => (t : Int)) = p
  | [], _ => rfl
  | x :: p, h => by
    rw [List.map_cons, List.map_cons, cast_back (fun y hy => h y (List.mem_cons_of_mem _ hy)), Int.toNat_of_nonneg (h x (List.mem_cons_self ..))]
theorem lndN_of {p : List Int} (hp : okPat p = true) : (lndN p.length p).Nodup := by
  have h0 : ∀ x ∈ p, 0 ≤ x := fun x hx => ((ok_in hp).2.2 x hx).1
  unfold lndN
  rw [List.Nodup, List.pairwise_iff_getElem]
  intro i j hi hj hij e
  simp only [List.length_map, List.length_range] at hi hj
  simp only [List.getElem_map, List.getElem_range] at e
  have := ok_apart hp hi hj (by rw [land_thr h0 hi, land_thr h0 hj]; unfold thr; rw [Nat.mod_eq_of_lt hi, Nat.mod_eq_of_lt hj, e])
  omega
theorem ok_lndN {p : List Int} (h0 : ∀ x ∈ p, 0 ≤ x ∧ x ≤ 15) (h1 : 1 ≤ p.length) (h2 : p.length ≤ 12) (hn : (lndN p.length p).Nodup) : okPat p = true := by
  have h00 : ∀ x ∈ p, 0 ≤ x := fun x hx => (h0 x hx).1
  refine ok_of h1 h2 h0 (fun a b hab hb e => ?_)
  rw [land_thr h00 (by omega), land_thr h00 hb] at e
  unfold thr at e
  rw [Nat.mod_eq_of_lt (show a < p.length by omega), Nat.mod_eq_of_lt hb] at e
  rw [List.Nodup, List.pairwise_iff_getElem] at hn
  refine hn a b (by simp [lndN]; omega) (by simp [lndN]; omega) hab ?_
  simp only [lndN, List.getElem_map, List.getElem_range]
  exact Int.ofNat_inj.1 e
theorem each_ok {N H P : Nat} (hP : 1 ≤ P ∧ P ≤ 12) (hH : H ≤ 7) {p : List Int} (h : p ∈ eachF H P P [] (N * P)) : okPat p = true ∧ p.length = P ∧ (∀ x ∈ p, x ≤ (H : Int)) ∧ sumF p 0 = ((N * P : Nat) : Int) := by
  obtain ⟨ts, hl, he, hle, hs, hr⟩ := (mem_each H P P [] (N * P) p).1 h
  rw [List.nil_append] at he
  have hpl : p.length = P := by rw [he, List.length_map, hl]
  have hm : ∀ x ∈ p, 0 ≤ x ∧ x ≤ (H : Int) := by
    intro x hx
    rw [he] at hx
    obtain ⟨t, ht, rfl⟩ := List.mem_map.1 hx
    have := hle t ht; omega
  have hn := (run_free_iff P ts []).1 ⟨by simp [lndN], hr⟩
  rw [List.nil_append, ← he, ← hpl] at hn
  exact ⟨ok_lndN (fun x hx => by have := hm x hx; omega) (by omega) (by omega) hn, hpl, fun x hx => (hm x hx).2, by rw [he, sum_cast, hs]⟩
theorem impl_iff {N H P : Nat} (hP : 1 ≤ P ∧ P ≤ 12) (hH : H ≤ 7) (p : List Int) : p ∈ implL N H P ↔ Prm N H P p := by
  unfold implL
  rw [List.mem_filter]
  unfold implT
  rw [Bool.and_eq_true, same2_iff eqI eqI_iff]
  constructor
  · rintro ⟨h, h1, h2⟩
    obtain ⟨a, b, c, d⟩ := each_ok hP hH h
    exact ⟨a, b, c, d, by rw [primeB_iff c, b] at h1; exact h1, h2⟩
  · rintro ⟨a, b, c, d, e, f⟩
    refine ⟨(mem_each H P P [] (N * P) p).2 ⟨p.map Int.toNat, by rw [List.length_map, b], ?_, ?_, ?_, ?_⟩, ?_, f⟩
    · rw [List.nil_append, cast_back (fun x hx => ((ok_in a).2.2 x hx).1)]
    · intro t ht
      obtain ⟨x, hx, rfl⟩ := List.mem_map.1 ht
      have := c x hx; omega
    · have h0 := cast_back (fun x hx => ((ok_in a).2.2 x hx).1)
      have h1 := sum_cast (p.map Int.toNat)
      rw [h0, d] at h1
      exact (Int.ofNat_inj.1 h1).symm
    · have h0 := cast_back (fun x hx => ((ok_in a).2.2 x hx).1)
      refine ((run_free_iff P (p.map Int.toNat) []).2 ?_).2
      rw [List.nil_append, h0, ← b]
      exact lndN_of a
    · rw [primeB_iff c, b]; exact e
theorem impl_sa (N H P : Nat) : SA (implL N H P) := List.Pairwise.sublist List.filter_sublist (each_sa H P P [] (N * P))
/-- Both searches give the same. -/
theorem primes_law {N H P : Nat} (hP : 1 ≤ P ∧ P ≤ 12) (hH : H ≤ 7) : ((specS N H P).2 = false → (specS N H P).1 = implL N H P ∧ (implL N H P).length ≤ 30) ∧ ((specS N H P).2 = true → 30 < (implL N H P).length) ∧ ((specS N H P).1 = [] ↔ implL N H P = []) := by
  have h0 : PInv [] (([], false) : PSt) := ⟨List.Pairwise.nil, by simp, fun x hx => absurd hx List.not_mem_nil, fun _ x hx => absurd hx List.not_mem_nil, fun h => absurd h (by decide)⟩
  have h := pinv_fold (foundM N H P) [] _ h0
  rw [List.nil_append, ← specS_eq] at h
  have hS : ∀ x, x ∈ (foundM N H P).map canL ↔ x ∈ implL N H P := fun x => by rw [found_iff hP hH, impl_iff hP hH]
  generalize specS N H P = st at *
  refine ⟨fun hf => ?_, fun hf => ?_, fun he => ?_, fun he => ?_⟩
  · have e : st.1 = implL N H P := sa_eq h.sa (impl_sa N H P) (fun x => ⟨fun hx => (hS x).1 (h.sub x hx), fun hx => h.all hf x ((hS x).2 hx)⟩)
    exact ⟨e, by rw [← e]; exact h.le⟩
  · obtain ⟨h1, y, h2, h3⟩ := h.full hf
    have := nodup_sub' (l := y :: st.1) (m := implL N H P) (List.nodup_cons.2 ⟨h3, sa_nodup h.sa⟩) (fun x hx => by
      rcases List.mem_cons.1 hx with rfl | hx
      · exact (hS x).1 h2
      · exact (hS x).1 (h.sub x hx))
    simp only [List.length_cons] at this; omega
  · cases hf : st.2
    · have e : st.1 = implL N H P := sa_eq h.sa (impl_sa N H P) (fun x => ⟨fun hx => (hS x).1 (h.sub x hx), fun hx => h.all hf x ((hS x).2 hx)⟩)
      rw [← e]; exact he
    · have := (h.full hf).1
      rw [he] at this; simp at this
  · refine List.eq_nil_iff_forall_not_mem.2 fun x hx => ?_
    have := (hS x).1 (h.sub x hx)
    rw [he] at this; exact absurd this List.not_mem_nil
end Go.Proofs.Ythdejhningghcaa
