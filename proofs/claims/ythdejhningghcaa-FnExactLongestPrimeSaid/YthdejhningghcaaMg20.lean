import Derived.Test.YthdejhningghcaaMg19
/- PrimeM: plain: the search for prime patterns through states finds the rotations of the prime patterns. -/
namespace Go.Proofs.Ythdejhningghcaa
open Go.RowKit

/-! ### Rotations -/
theorem thr_rot {p : List Int} (h0 : 0 < p.length) (j b : Nat) : thr (rotL p j) b = thr p (b + j) := by
  unfold thr
  rw [rotL_len, nth_rot p j _ (Nat.mod_lt _ h0), Nat.mod_add_mod]
theorem from_rot {p : List Int} (hp : okPat p = true) (j m : Nat) : fromV (rotL p j) m = fromV p (m + j) := by
  have h0 := (ok_in hp).1
  obtain ⟨i, hi, e, hf⟩ := from_ex (okPat_rot hp j) m
  rw [hf, thr_rot h0]
  rw [rotL_len, thr_rot h0] at e
  rw [← from_eq hp (f := i + j) rfl]
  refine fromV_mod p ?_
  have h1 : (i + thr p (i + j) + j) % p.length = (m + j) % p.length := by rw [Nat.add_mod, e, ← Nat.add_mod]
  rw [← h1]; congr 1; omega
theorem mask_rot {p : List Int} (hp : okPat p = true) (j b : Nat) : ∀ h, maskTo (rotL p j) b h = maskTo p (b + j) h
  | 0 => rfl
  | h + 1 => by
    have hb : bitP (rotL p j) b h = bitP p (b + j) h := by
      unfold bitP
      rw [from_rot hp, show b + h + j = b + j + h by omega]
    unfold maskTo
    rw [hb, mask_rot hp j b h]
/-! ### Counts -/
def cntF : Nat → Nat → Nat
  | 0, _ => 0
  | f + 1, m => m % 2 + cntF f (m / 2)
def phiF : Nat → Nat → Nat → Nat
  | 0, _, _ => 0
  | f + 1, k, m => m % 2 * k + phiF f (k + 1) (m / 2)
def cntM (m : Nat) : Nat := cntF 7 m
def stepOk (m t : Nat) : Bool := !(canM 7 m t) || !(decide (nextM m t < 128)) || (cntM (nextM m t) == cntM m && phiF 7 0 (nextM m t) + cntM m == phiF 7 0 m + t)
theorem step_all : ((List.range 128).all fun m => (List.range 8).all fun t => stepOk m t) = true := by decide +kernel
theorem step_ok {m t : Nat} (hm : m < 128) (ht : t < 8) (hc : canM 7 m t = true) (hn : nextM m t < 128) : cntM (nextM m t) = cntM m ∧ phiF 7 0 (nextM m t) + cntM m = phiF 7 0 m + t := by
  have h := List.all_eq_true.1 (List.all_eq_true.1 step_all m (List.mem_range.2 hm)) t (List.mem_range.2 ht)
  unfold stepOk at h
  rw [hc, decide_eq_true hn] at h
  simpa using h
section
variable {H P : Nat} {T M : Nat → Nat}
theorem Wk.lt (h : Wk H P T M) (b : Nat) : M b < 2 ^ H := Nat.lt_pow_two_of_testBit _ (fun i hi => h.hi b i hi)
theorem Wk.step (h : Wk H P T M) (hH : H ≤ 7) (b : Nat) : cntM (M (b + 1)) = cntM (M b) ∧ phiF 7 0 (M (b + 1)) + cntM (M b) = phiF 7 0 (M b) + T b := by
  have h2 : 2 ^ H ≤ 2 ^ 7 := Nat.pow_le_pow_right (by decide) hH
  have h3 := h.lt b
  have h4 := h.lt (b + 1)
  have h5 := h.le b
  rw [h.next b] at h4 ⊢
  refine step_ok (by omega) (by omega) ?_ (by omega)
  have hc := h.can b
  unfold canM at hc ⊢
  by_cases h0 : T b = 0
  · rw [if_pos h0] at hc ⊢; exact hc
  · rw [if_neg h0] at hc ⊢
    rw [Bool.and_eq_true, Bool.and_eq_true] at hc
    rw [hc.1, hc.2.2, decide_eq_true (by omega)]; rfl
theorem Wk.cnt (h : Wk H P T M) (hH : H ≤ 7) : ∀ b, cntM (M b) = cntM (M 0)
  | 0 => rfl
  | b + 1 => by rw [(h.step hH b).1, h.cnt hH b]
def sumT (T : Nat → Nat) : Nat → Nat
  | 0 => 0
  | n + 1 => sumT T n + T n
theorem Wk.sum (h : Wk H P T M) (hH : H ≤ 7) : ∀ n, phiF 7 0 (M n) + n * cntM (M 0) = phiF 7 0 (M 0) + sumT T n
  | 0 => by simp [sumT]
  | n + 1 => by
    have h1 := (h.step hH n).2
    have h2 := h.sum hH n
    rw [h.cnt hH n] at h1
    unfold sumT
    rw [Nat.succ_mul]; omega
theorem Wk.props (h : Wk H P T M) (hH : H ≤ 7) : P * cntM (M 0) = sumT T P := by
  have h1 := h.sum hH P
  have h2 := h.perM 0
  rw [Nat.zero_add] at h2
  rw [h2] at h1; omega
end
theorem sumF_shift : ∀ (l : List Int) (s : Int), sumF l s = s + sumF l 0
  | [], s => by simp [sumF]
  | x :: l, s => by simp only [sumF]; rw [sumF_shift l (s + x), sumF_shift l (0 + x)]; omega
theorem sumT_take (p : List Int) (hp : ∀ x ∈ p, 0 ≤ x) : ∀ n, n ≤ p.length → ((sumT (thr p) n : Nat) : Int) = sumF (p.take n) 0
  | 0, _ => by simp [sumT, sumF]
  | n + 1, hn => by
    have h0 := hp _ (mem_nth (l := p) (i := n) (by omega))
    have h1 := sumT_take p hp n (by omega)
    have h2 : ∀ (l : List Int) (x : Int), sumF (l ++ [x]) 0 = sumF l 0 + x := by
      intro l
      induction l with
      | nil => intro x; simp [sumF]
      | cons y l ih => intro x; simp only [List.cons_append, sumF]; rw [sumF_shift, sumF_shift l, ih]; omega
    rw [take_nth p n (by omega), h2, ← h1]
    have e : ((thr p n : Nat) : Int) = nth p n := by
      unfold thr
      rw [Nat.mod_eq_of_lt (by omega), Int.toNat_of_nonneg h0]
    show ((sumT (thr p) n + thr p n : Nat) : Int) = _
    rw [Int.natCast_add, e]
/-! ### The search -/
def throwsM (H x : Nat) : List Nat := (List.range (H + 1)).filter (canM H x)
def skipM (start d x t : Nat) (seen : List Nat) : Bool := decide (0 < d) && (decide (nextM x t < start) || decide (nextM x t ∈ seen))
def dfs (H start : Nat) : Nat → Nat → List Nat → List Int → List (List Int)
  | 0, x, _, th => if x = start then [th] else []
  | d + 1, x, seen, th => (throwsM H x).flatMap fun t => if skipM start d x t seen then [] else dfs H start d (nextM x t) (seen ++ [nextM x t]) (th ++ [(t : Int)])
def okRun (H start : Nat) : Nat → List Nat → List Nat → Prop
  | x, _, [] => x = start
  | x, seen, t :: ts => canM H x t = true ∧ t ≤ H ∧ (ts = [] ∨ (start ≤ nextM x t ∧ nextM x t ∉ seen)) ∧ okRun H start (nextM x t) (seen ++ [nextM x t]) ts
theorem mem_dfs (H start : Nat) : ∀ (d x : Nat) (seen : List Nat) (th y : List Int), y ∈ dfs H start d x seen th ↔ ∃ ts : List Nat, ts.length = d ∧ y = th ++ ts.map (fun t : Nat => (t : Int)) ∧ okRun H start x seen ts
  | 0, x, seen, th, y => by
    unfold dfs
    constructor
    · intro h
      split at h
      · rename_i hx
        exact ⟨[], rfl, by simpa using h, hx⟩
      · exact absurd h List.not_mem_nil
    · rintro ⟨ts, hl, he, ho⟩
      obtain rfl := List.eq_nil_of_length_eq_zero hl
      rw [if_pos (show x = start from ho)]
      simpa using he
  | d + 1, x, seen, th, y => by
    unfold dfs
    rw [List.mem_flatMap]
    constructor
    · rintro ⟨t, ht, hy⟩
      obtain ⟨h1, h2⟩ := List.mem_filter.1 ht
      have h1 := List.mem_range.1 h1
      split at hy
      · exact absurd hy List.not_mem_nil
      · rename_i hs
        obtain ⟨ts, hl, he, ho⟩ := (mem_dfs H start d _ _ _ y).1 hy
        refine ⟨t :: ts, by simp [hl], by rw [he]; simp, h2, by omega, ?_, ho⟩
        by_cases hd : 0 < d
        · right
          unfold skipM at hs
          rw [decide_eq_true hd, Bool.true_and, Bool.or_eq_true, not_or] at hs
          exact ⟨by have := hs.1; simp at this; exact this, by have := hs.2; simpa using this⟩
        · left
          exact List.eq_nil_of_length_eq_zero (by omega)
    · rintro ⟨ts, hl, he, ho⟩
      cases ts with
      | nil => simp at hl
      | cons t ts =>
        obtain ⟨h1, h2, h3, h4⟩ := ho
        have hl : ts.length = d := by simpa using hl
        refine ⟨t, List.mem_filter.2 ⟨List.mem_range.2 (by omega), h1⟩, ?_⟩
        rw [if_neg ?_]
        · exact (mem_dfs H start d _ _ _ y).2 ⟨ts, hl, by rw [he]; simp, h4⟩
        · unfold skipM
          rcases h3 with h3 | ⟨h3, h5⟩
          · subst h3
            have : d = 0 := by simpa using hl.symm
            rw [decide_eq_false (by omega)]; simp
          · rw [decide_eq_false (show ¬ nextM x t < start by omega), decide_eq_false h5]; simp
def stAt (x : Nat) (ts : List Nat) (j : Nat) : Nat := (ts.take j).foldl nextM x
theorem stAt_zero (x : Nat) (ts : List Nat) : stAt x ts 0 = x := rfl
theorem stAt_succ (x t : Nat) (ts : List Nat) (j : Nat) : stAt x (t :: ts) (j + 1) = stAt (nextM x t) ts j := rfl
theorem stAt_step : ∀ (ts : List Nat) (x j : Nat), j < ts.length → stAt x ts (j + 1) = nextM (stAt x ts j) (nth ts j)
  | [], _, _, h => by simp at h
  | t :: ts, x, 0, _ => by simp [stAt, nth]
  | t :: ts, x, j + 1, h => by
    rw [stAt_succ, stAt_succ, stAt_step ts _ j (by simpa using h), nth_cons_succ]
theorem run_facts (H start : Nat) : ∀ (ts : List Nat) (x : Nat) (seen : List Nat), okRun H start x seen ts →
    (∀ j, j < ts.length → canM H (stAt x ts j) (nth ts j) = true ∧ nth ts j ≤ H) ∧ stAt x ts ts.length = start ∧
    ∀ j, 1 ≤ j → j < ts.length → start ≤ stAt x ts j ∧ stAt x ts j ∉ seen ∧ ∀ i, 1 ≤ i → i < j → stAt x ts i ≠ stAt x ts j
  | [], x, seen, h => ⟨fun j hj => absurd hj (Nat.not_lt_zero _), h, fun j h1 h2 => absurd h2 (Nat.not_lt_zero _)⟩
  | t :: ts, x, seen, ⟨h1, h2, h3, h4⟩ => by
    obtain ⟨a, b, c⟩ := run_facts H start ts _ _ h4
    refine ⟨fun j hj => ?_, by rw [List.length_cons, stAt_succ]; exact b, fun j j1 j2 => ?_⟩
    · cases j with
      | zero => exact ⟨h1, h2⟩
      | succ j => rw [stAt_succ, nth_cons_succ]; exact a j (by simpa using hj)
    · obtain ⟨j, rfl⟩ : ∃ k, j = k + 1 := ⟨j - 1, by omega⟩
      rw [stAt_succ]
      have j2 : j < ts.length := by simpa using j2
      cases j with
      | zero =>
        rcases h3 with h3 | h3
        · subst h3; simp at j2
        · exact ⟨h3.1, h3.2, fun i i1 i2 => by omega⟩
      | succ j =>
        obtain ⟨c1, c2, c3⟩ := c (j + 1) (by omega) j2
        rw [List.mem_append, List.mem_singleton, not_or] at c2
        refine ⟨c1, c2.1, fun i i1 i2 => ?_⟩
        obtain ⟨i, rfl⟩ : ∃ k, i = k + 1 := ⟨i - 1, by omega⟩
        rw [stAt_succ]
        cases i with
        | zero => exact fun e => c2.2 e.symm
        | succ i => exact c3 (i + 1) (by omega) (by omega)
theorem run_wk {H m : Nat} {ts : List Nat} (h : okRun H m m [m] ts) (hP : 1 ≤ ts.length) (hm : m < 2 ^ H) :
    Wk H ts.length (fun b => nth ts (b % ts.length)) (fun b => stAt m ts (b % ts.length)) ∧ (∀ b, m ≤ stAt m ts (b % ts.length)) ∧ ∀ i j, i < j → j < ts.length → stAt m ts i ≠ stAt m ts j := by
  obtain ⟨a, b, c⟩ := run_facts H m ts m [m] h
  have hmod : ∀ b, b % ts.length < ts.length := fun b => Nat.mod_lt _ (by omega)
  have hnext : ∀ b, stAt m ts ((b + 1) % ts.length) = nextM (stAt m ts (b % ts.length)) (nth ts (b % ts.length)) := fun x => by
    rw [← stAt_step ts m (x % ts.length) (hmod x)]
    by_cases hx : x % ts.length + 1 = ts.length
    · have : (x + 1) % ts.length = 0 := by rw [Nat.add_mod, ← Nat.mod_add_mod, ← Nat.add_mod]; rw [show x % ts.length + 1 = ts.length from hx] at *; simp
      rw [this, hx, b]; rfl
    · have : (x + 1) % ts.length = x % ts.length + 1 := by
        rw [← Nat.mod_add_mod, Nat.mod_eq_of_lt]
        have := hmod x; omega
      rw [this]
  have hlt : ∀ j, j ≤ ts.length → ∀ k, H ≤ k → (stAt m ts j).testBit k = false := by
    intro j
    induction j with
    | zero => exact fun _ k hk => Nat.testBit_lt_two_pow (Nat.lt_of_lt_of_le hm (Nat.pow_le_pow_right (by decide) hk))
    | succ j ih =>
      intro hj k hk
      have h1 := (a j (by omega)).2
      rw [stAt_step ts m j (by omega), nextM_bit, ih (by omega) (k + 1) (by omega), decide_eq_false (by omega)]; rfl
  refine ⟨⟨fun b => (a _ (hmod b)).1, hnext, fun b k hk => hlt _ (Nat.le_of_lt (hmod b)) k hk, fun b => by simp, fun b => by simp⟩, fun x => ?_, fun i j hij hj => ?_⟩
  · by_cases h0 : x % ts.length = 0
    · rw [h0]; exact Nat.le_refl _
    · exact (c _ (by omega) (hmod x)).1
  · obtain ⟨c1, c2, c3⟩ := c j (by omega) hj
    cases i with
    | zero => exact fun e => c2 (by rw [← e]; simp [stAt])
    | succ i => exact c3 (i + 1) (by omega) hij
theorem wk_run {H P : Nat} {T M : Nat → Nat} (h : Wk H P T M) (hmin : ∀ b, b < P → M 0 ≤ M b) (hd : ∀ i j, i < j → j < P → M i ≠ M j) : ∀ (n j : Nat), j + n = P → okRun H (M 0) (M j) ((List.range (j + 1)).map M) ((List.range' j n).map T)
  | 0, j, hj => by
    have h1 := h.perM 0
    obtain rfl : j = P := by omega
    rw [Nat.zero_add] at h1
    exact h1
  | n + 1, j, hj => by
    rw [List.range'_succ, List.map_cons]
    refine ⟨h.can j, h.le j, ?_, ?_⟩
    · cases n with
      | zero => exact .inl rfl
      | succ n =>
        right
        rw [← h.next j]
        refine ⟨hmin _ (by omega), fun hm => ?_⟩
        obtain ⟨i, hi, e⟩ := List.mem_map.1 hm
        have hi := List.mem_range.1 hi
        exact hd i (j + 1) hi (by omega) e
    · have ih := wk_run h hmin hd n (j + 1) (by omega)
      rw [List.range_succ (n := j + 1), List.map_append, List.map_cons, List.map_nil, h.next j] at ih
      exact ih
/-! ### What is found -/
def masksM (N H : Nat) : List Nat := (List.range (2 ^ H)).filter (fun m => cntM m == N)
def foundM (N H P : Nat) : List (List Int) := (masksM N H).flatMap fun m => dfs H m P m [m] []
def Prm (N H P : Nat) (p : List Int) : Prop := okPat p = true ∧ p.length = P ∧ (∀ x ∈ p, x ≤ (H : Int)) ∧ sumF p 0 = ((N * P : Nat) : Int) ∧ (∀ i j, i < j → j < P → maskTo p i H ≠ maskTo p j H) ∧ canL p = p
theorem least_at (f : Nat → Nat) : ∀ n, 0 < n → ∃ j, j < n ∧ ∀ b, b < n → f j ≤ f b
  | 0, h => absurd h (by omega)
  | 1, _ => ⟨0, by omega, fun b hb => by obtain rfl : b = 0 := by omega
                                         exact Nat.le_refl _⟩
  | n + 2, _ => by
    obtain ⟨j, h1, h2⟩ := least_at f (n + 1) (by omega)
    rcases Nat.le_total (f j) (f (n + 1)) with h | h
    · exact ⟨j, by omega, fun b hb => by
        rcases Nat.lt_or_ge b (n + 1) with h3 | h3
        · exact h2 b h3
        · obtain rfl : b = n + 1 := by omega
          exact h⟩
    · exact ⟨n + 1, by omega, fun b hb => by
        rcases Nat.lt_or_ge b (n + 1) with h3 | h3
        · exact Nat.le_trans h (h2 b h3)
        · obtain rfl : b = n + 1 := by omega
          exact Nat.le_refl _⟩
theorem pat_sum {p : List Int} (hp : okPat p = true) {H : Nat} (hH : ∀ x ∈ p, x ≤ (H : Int)) (h7 : H ≤ 7) : sumF p 0 = ((cntM (maskTo p 0 H) * p.length : Nat) : Int) := by
  have h1 := (pat_wk hp hH).props h7
  have h2 := sumT_take p (fun x hx => ((ok_in hp).2.2 x hx).1) p.length (Nat.le_refl _)
  rw [List.take_length] at h2
  rw [← h2, ← h1, Nat.mul_comm]
theorem shift_apart {p : List Int} (hp : okPat p = true) {H : Nat} (hH : ∀ x ∈ p, x ≤ (H : Int)) (hd : ∀ i j, i < j → j < p.length → maskTo p i H ≠ maskTo p j H) (s : Nat) : ∀ i j, i < j → j < p.length → maskTo p (i + s) H ≠ maskTo p (j + s) H := by
  intro i j hij hj e
  have hw := pat_wk hp hH
  have hmod : ∀ b, maskTo p b H = maskTo p (b % p.length) H := fun b => by
    have h1 := hw.perM' (b % p.length) (b / p.length)
    have h2 : b % p.length + b / p.length * p.length = b := by rw [Nat.mul_comm]; exact Nat.mod_add_div b p.length
    rw [h2] at h1; exact h1
  rw [hmod (i + s), hmod (j + s)] at e
  have hl : ∀ b, b % p.length < p.length := fun b => Nat.mod_lt _ (by omega)
  have hne : (i + s) % p.length ≠ (j + s) % p.length := by
    intro e2
    have e5 : (((i + s : Nat) : Int) - ((j + s : Nat) : Int)) % (p.length : Int) = 0 := by
      refine Int.emod_eq_emod_iff_emod_sub_eq_zero.1 ?_
      rw [← Int.natCast_emod, ← Int.natCast_emod, e2]
    have e6 : ((i : Int)) % (p.length : Int) = (j : Int) % (p.length : Int) := by
      refine Int.emod_eq_emod_iff_emod_sub_eq_zero.2 ?_
      rw [show (i : Int) - (j : Int) = ((i + s : Nat) : Int) - ((j + s : Nat) : Int) by omega]; exact e5
    rw [← Int.natCast_emod, ← Int.natCast_emod, Nat.mod_eq_of_lt (by omega), Nat.mod_eq_of_lt hj] at e6
    have := Int.ofNat_inj.1 e6
    omega
  rcases Nat.lt_trichotomy ((i + s) % p.length) ((j + s) % p.length) with h | h | h
  · exact hd _ _ h (hl _) e
  · exact hne h
  · exact hd _ _ h (hl _) e.symm
theorem prime_root {p : List Int} (hp : okPat p = true) {H : Nat} (hd : ∀ i j, i < j → j < p.length → maskTo p i H ≠ maskTo p j H) : rootL p = p := by
  have h0 := (ok_in hp).1
  have hk := rootK_le p
  have hk0 := rootK_pos p (by omega)
  unfold rootL
  rcases Nat.lt_or_ge (rootK p) p.length with h | h
  · exfalso
    have h1 := ((isRoot_shift hk0 hk).1 (isRoot_rootK p (by omega))).2
    have hr : rotL p (rootK p) = p := ext_nth (rotL_len _ _) (fun i hi => by
      rw [rotL_len] at hi
      rw [nth_rot p _ i hi, h1 i hi])
    have h2 := mask_rot hp (rootK p) 0 H
    rw [hr, Nat.zero_add] at h2
    exact hd 0 (rootK p) hk0 h h2
  · exact List.take_of_length_le h
theorem found_iff {N H P : Nat} (hP : 1 ≤ P ∧ P ≤ 12) (hH : H ≤ 7) (p : List Int) : p ∈ (foundM N H P).map canL ↔ Prm N H P p := by
  rw [List.mem_map]
  constructor
  · rintro ⟨q, hq, rfl⟩
    obtain ⟨m, hm, hq⟩ := List.mem_flatMap.1 hq
    obtain ⟨hm1, hm2⟩ := List.mem_filter.1 hm
    have hm1 := List.mem_range.1 hm1
    have hm2 : cntM m = N := by simpa using hm2
    obtain ⟨ts, hl, he, ho⟩ := (mem_dfs _ _ _ _ _ _ _).1 hq
    rw [List.nil_append] at he
    obtain ⟨hw, -, hne⟩ := run_wk ho (by omega) hm1
    have hql : q.length = ts.length := by rw [he, List.length_map]
    have hq0 : ∀ x ∈ q, 0 ≤ x := by
      intro x hx
      rw [he] at hx
      obtain ⟨t, -, rfl⟩ := List.mem_map.1 hx
      omega
    have hT : ∀ b, thr q b = nth ts (b % ts.length) := by
      intro b
      have hb : b % ts.length < ts.length := Nat.mod_lt _ (by omega)
      unfold thr
      rw [hql, he, nth_map' _ _ _ hb]; simp
    obtain ⟨hok, hle, hM⟩ := wk_pat hw hql (by omega) (by omega) hT hq0
    have hd : ∀ i j, i < j → j < q.length → maskTo q i H ≠ maskTo q j H := by
      intro i j hij hj
      rw [hM i, hM j, Nat.mod_eq_of_lt (by omega), Nat.mod_eq_of_lt (by omega)]
      exact hne i j hij (by omega)
    have hr := prime_root hok hd
    obtain ⟨⟨s, hs⟩, -⟩ := can_max q (by omega)
    rw [hr] at hs
    have hcc := can_can q (by omega)
    rw [hs] at hcc ⊢
    have hok2 := okPat_rot hok s
    have hle2 : ∀ x ∈ rotL q s, x ≤ (H : Int) := fun x hx => hle x ((mem_rot q s (by omega) x).1 hx)
    refine ⟨hok2, by rw [rotL_len, hql, hl], hle2, ?_, fun i j hij hj => ?_, hcc⟩
    · rw [pat_sum hok2 hle2 hH, rotL_len, mask_rot hok, Nat.zero_add, hM s]
      have h1 := hw.cnt hH s
      have h2 : stAt m ts (0 % ts.length) = m := by rw [Nat.zero_mod]; rfl
      rw [h1, h2, hm2, hql, hl]
    · rw [mask_rot hok, mask_rot hok]
      exact shift_apart hok hle hd s i j hij (by omega)
  · rintro ⟨hok, hl, hle, hs, hd, hc⟩
    subst hl
    obtain ⟨j, hj, hmin⟩ := least_at (fun b => maskTo p b H) p.length (by omega)
    have hokr := okPat_rot hok j
    have hler : ∀ x ∈ rotL p j, x ≤ (H : Int) := fun x hx => hle x ((mem_rot p j (by omega) x).1 hx)
    have hw := pat_wk hokr hler
    refine ⟨rotL p j, List.mem_flatMap.2 ⟨maskTo (rotL p j) 0 H, List.mem_filter.2 ⟨List.mem_range.2 (hw.lt 0), ?_⟩, ?_⟩, by rw [can_rot p (by omega), hc]⟩
    · have h1 := pat_sum hok hle hH
      rw [hs] at h1
      have h2 : N = cntM (maskTo p 0 H) := Nat.eq_of_mul_eq_mul_right (show 0 < p.length by omega) (by exact_mod_cast h1)
      have h3 := (pat_wk hok hle).cnt hH j
      rw [mask_rot hok, Nat.zero_add, h2, h3]
      simp
    · rw [mem_dfs]
      rw [rotL_len] at hw
      refine ⟨(List.range' 0 p.length).map (thr (rotL p j)), by simp, ?_, wk_run hw (fun b hb => ?_) (fun a b hab hb => ?_) p.length 0 (by omega)⟩
      · rw [List.nil_append, List.map_map]
        refine ext_nth (by simp [rotL_len]) (fun i hi => ?_)
        rw [rotL_len] at hi
        rw [nth_map' _ _ _ (by simpa using hi)]
        have e : nth (List.range' 0 p.length) i = i := by rw [nth_eq _ _ (by simpa using hi)]; simp
        have h0 := ((ok_in hokr).2.2 _ (mem_nth (l := rotL p j) (i := i) (by rw [rotL_len]; exact hi))).1
        rw [e]
        show _ = ((thr (rotL p j) i : Nat) : Int)
        unfold thr
        rw [rotL_len, Nat.mod_eq_of_lt hi, Int.toNat_of_nonneg h0]
      · have hmod : ∀ b, maskTo p b H = maskTo p (b % p.length) H := fun b => by
          have h1 := (pat_wk hok hle).perM' (b % p.length) (b / p.length)
          have h2 : b % p.length + b / p.length * p.length = b := by rw [Nat.mul_comm]; exact Nat.mod_add_div b p.length
          rw [h2] at h1; exact h1
        show maskTo (rotL p j) 0 H ≤ maskTo (rotL p j) b H
        rw [mask_rot hok, mask_rot hok, Nat.zero_add, hmod (b + j)]
        exact hmin _ (Nat.mod_lt _ (by omega))
      · show maskTo (rotL p j) a H ≠ maskTo (rotL p j) b H
        rw [mask_rot hok, mask_rot hok]
        exact shift_apart hok hle hd j a b hab hb
end Go.Proofs.Ythdejhningghcaa
