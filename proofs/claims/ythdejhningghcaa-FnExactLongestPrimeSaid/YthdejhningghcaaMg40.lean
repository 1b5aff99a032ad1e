import Derived.Test.YthdejhningghcaaMg39
/- StableL: plain laws of a stable merge: rotations, the cut of a merge, blocks. -/
namespace Go.Proofs.Ythdejhningghcaa
open Go.Sort (swp PermIn)

section
variable {α : Type} [Inhabited α]
/-- d' reads as d at the places that f tells. -/
def IxTo (f : Nat → Nat) (d d' : Array α) : Prop := d'.size = d.size ∧ ∀ t, t < d.size → d'[t]! = d[f t]!
/-- The k places from i and the k places from j exchanged. -/
def swpIx (i j k t : Nat) : Nat := if i ≤ t ∧ t < i + k then j + (t - i) else if j ≤ t ∧ t < j + k then i + (t - j) else t
/-- What lies in [a, m) and in [m, b) exchanged. -/
def rotIx (a m b t : Nat) : Nat := if t < a ∨ b ≤ t then t else if t < a + (b - m) then t + (m - a) else t - (b - m)

theorem swpIx_zero (i j : Nat) (d : Array α) : IxTo (swpIx i j 0) d d := ⟨rfl, fun t _ => by
  have : swpIx i j 0 t = t := by unfold swpIx; (repeat' split) <;> omega
  rw [this]⟩
theorem ix_swap {f g : Nat → Nat} {d dk : Array α} {p q : Nat} (h : IxTo f d dk) (hp : p < d.size) (hq : q < d.size) (hpq : p ≠ q) (e1 : g p = f q) (e2 : g q = f p) (e3 : ∀ t, t ≠ p → t ≠ q → g t = f t) : IxTo g d (swp dk p q) := by
  refine ⟨by rw [Go.Sort.swp_size]; exact h.1, fun t ht => ?_⟩
  by_cases ha : t = p
  · subst ha
    rw [Go.Sort.swp_left _ _ _ (by have := h.1; omega) hpq, h.2 q hq, e1]
  · by_cases hb : t = q
    · subst hb
      rw [Go.Sort.swp_right _ _ _ (by have := h.1; omega), h.2 p hp, e2]
    · rw [Go.Sort.swp_other _ _ _ _ ha hb, h.2 t ht, e3 t ha hb]
theorem swpIx_step {i j k n : Nat} {d dk : Array α} (h : IxTo (swpIx i j k) d dk) (hk : k < n) (hij : i + n ≤ j) (hj : j + n ≤ d.size) : IxTo (swpIx i j (k + 1)) d (swp dk (i + k) (j + k)) := by
  refine ix_swap h (by omega) (by omega) (by omega) ?_ ?_ ?_
  · unfold swpIx; (repeat' split) <;> omega
  · unfold swpIx; (repeat' split) <;> omega
  · intro t h1 h2; unfold swpIx; (repeat' split) <;> omega
theorem ix_then {f g k : Nat → Nat} {d d1 d' : Array α} (h1 : IxTo f d d1) (h2 : IxTo g d1 d') (hg : ∀ t, t < d.size → g t < d.size) (he : ∀ t, t < d.size → k t = f (g t)) : IxTo k d d' :=
  ⟨h2.1.trans h1.1, fun t ht => by rw [h2.2 t (by rw [h1.1]; exact ht), h1.2 _ (hg t ht), he t ht]⟩
theorem rot_left {m i j : Nat} {d d1 d' : Array α} (h1 : IxTo (swpIx (m - i) m j) d d1) (h2 : IxTo (rotIx (m - (i - j)) m (m + j)) d1 d') (hij : j < i) (him : i ≤ m) (hs : m + j ≤ d.size) (hj : 0 < j) : IxTo (rotIx (m - i) m (m + j)) d d' := by
  refine ix_then h1 h2 (fun t ht => ?_) (fun t ht => ?_)
  · unfold rotIx; (repeat' split) <;> omega
  · generalize hg : rotIx (m - (i - j)) m (m + j) t = u
    unfold rotIx at hg
    unfold rotIx swpIx
    (repeat' split at hg) <;> (repeat' split) <;> omega
theorem rot_right {m i j : Nat} {d d1 d' : Array α} (h1 : IxTo (swpIx (m - i) (m + j - i) i) d d1) (h2 : IxTo (rotIx (m - i) m (m + (j - i))) d1 d') (hij : i < j) (him : i ≤ m) (hs : m + j ≤ d.size) (hi : 0 < i) : IxTo (rotIx (m - i) m (m + j)) d d' := by
  refine ix_then h1 h2 (fun t ht => ?_) (fun t ht => ?_)
  · unfold rotIx; (repeat' split) <;> omega
  · generalize hg : rotIx (m - i) m (m + (j - i)) t = u
    unfold rotIx at hg
    unfold rotIx swpIx
    (repeat' split at hg) <;> (repeat' split) <;> omega
theorem rot_eq {m i : Nat} {d d' : Array α} (h : IxTo (swpIx (m - i) m i) d d') (him : i ≤ m) : IxTo (rotIx (m - i) m (m + i)) d d' := by
  refine ⟨h.1, fun t ht => ?_⟩
  rw [h.2 t ht]
  have : swpIx (m - i) m i t = rotIx (m - i) m (m + i) t := by unfold rotIx swpIx; (repeat' split) <;> omega
  rw [this]
theorem rot_id {a m b : Nat} (d : Array α) (h : a = m ∨ m = b) (h1 : a ≤ m) (h2 : m ≤ b) : IxTo (rotIx a m b) d d := ⟨rfl, fun t _ => by
  have : rotIx a m b t = t := by unfold rotIx; (repeat' split) <;> omega
  rw [this]⟩
/-- 'for k := a; k < i-1; k++ { swap(k, k+1) }'. -/
theorem rot_up {a k : Nat} {d dk : Array α} (h : IxTo (rotIx a (a + 1) (k + 1)) d dk) (hak : a ≤ k) (hk : k + 1 < d.size) : IxTo (rotIx a (a + 1) (k + 2)) d (swp dk k (k + 1)) := by
  refine ix_swap h (by omega) (by omega) (by omega) ?_ ?_ ?_
  · unfold rotIx; (repeat' split) <;> omega
  · unfold rotIx; (repeat' split) <;> omega
  · intro t h1 h2; unfold rotIx; (repeat' split) <;> omega
/-- 'for k := m; k > i; k-- { swap(k, k-1) }'. -/
theorem rot_down {m k : Nat} {d dk : Array α} (h : IxTo (rotIx k m (m + 1)) d dk) (hk0 : 0 < k) (hkm : k ≤ m) (hm : m < d.size) : IxTo (rotIx (k - 1) m (m + 1)) d (swp dk k (k - 1)) := by
  refine ix_swap h (by omega) (by omega) (by omega) ?_ ?_ ?_
  · unfold rotIx; (repeat' split) <;> omega
  · unfold rotIx; (repeat' split) <;> omega
  · intro t h1 h2; unfold rotIx; (repeat' split) <;> omega

/-! ### Sorted strictly by an order that settles ties -/
variable {lt lt' : α → α → Bool}
def Srt (lt' : α → α → Bool) (a b : Nat) (d : Array α) : Prop := ∀ i j, a ≤ i → i < j → j < b → lt' d[i]! d[j]! = true
def Less2 (lt' : α → α → Bool) (a m m' b : Nat) (d : Array α) : Prop := ∀ i j, a ≤ i → i < m → m' ≤ j → j < b → lt' d[i]! d[j]! = true
/-- Every comparison of a later one with an earlier one settles as lt' does. -/
def Cross (lt lt' : α → α → Bool) (a m m' b : Nat) (d : Array α) : Prop := ∀ i j, a ≤ i → i < m → m' ≤ j → j < b → (lt d[j]! d[i]! = true → lt' d[j]! d[i]! = true) ∧ (lt d[j]! d[i]! = false → lt' d[i]! d[j]! = true)
structure MPre (lt lt' : α → α → Bool) (a m b : Nat) (d : Array α) : Prop where
  am : a ≤ m
  mb : m ≤ b
  bd : b ≤ d.size
  L : Srt lt' a m d
  R : Srt lt' m b d
  X : Cross lt lt' a m m b d
theorem srt_glue {a m b : Nat} {d : Array α} (h1 : Srt lt' a m d) (h2 : Srt lt' m b d) (h3 : Less2 lt' a m m b d) : Srt lt' a b d := by
  intro i j hi hij hj
  rcases Nat.lt_or_ge j m with c | c
  · exact h1 i j hi hij c
  · rcases Nat.lt_or_ge i m with c2 | c2
    · exact h3 i j hi c2 c hj
    · exact h2 i j c2 hij hj
/-- Behind a rotation. -/
theorem rot_pre {a s m e b : Nat} {d d' : Array α} (h : MPre lt lt' a m b d) (hr : IxTo (rotIx s m e) d d') (has : a ≤ s) (hsm : s ≤ m) (hme : m ≤ e) (heb : e ≤ b)
    (h1 : Less2 lt' a s e b d) (h2 : ∀ i j, s ≤ i → i < m → m ≤ j → j < e → lt' d[j]! d[i]! = true) :
    MPre lt lt' a s (s + (e - m)) d' ∧ MPre lt lt' (s + (e - m)) e b d' ∧ Less2 lt' a (s + (e - m)) (s + (e - m)) b d' := by
  have bd := h.bd
  have lo : ∀ t, t < s → d'[t]! = d[t]! := fun t ht => by rw [hr.2 t (by omega)]; congr 1; unfold rotIx; (repeat' split) <;> omega
  have hi : ∀ t, e ≤ t → t < b → d'[t]! = d[t]! := fun t ht ht2 => by rw [hr.2 t (by omega)]; congr 1; unfold rotIx; (repeat' split) <;> omega
  have m1 : ∀ t, s ≤ t → t < s + (e - m) → d'[t]! = d[t + (m - s)]! := fun t ht ht2 => by rw [hr.2 t (by omega)]; congr 1; unfold rotIx; (repeat' split) <;> omega
  have m2 : ∀ t, s + (e - m) ≤ t → t < e → d'[t]! = d[t - (e - m)]! := fun t ht ht2 => by rw [hr.2 t (by omega)]; congr 1; unfold rotIx; (repeat' split) <;> omega
  refine ⟨⟨by omega, by omega, by rw [hr.1]; omega, ?_, ?_, ?_⟩, ⟨by omega, by omega, by rw [hr.1]; omega, ?_, ?_, ?_⟩, ?_⟩
  · intro i j hi hij hj; rw [lo i (by omega), lo j hj]; exact h.L i j hi hij (by omega)
  · intro i j hi hij hj; rw [m1 i hi (by omega), m1 j (by omega) hj]; exact h.R _ _ (by omega) (by omega) (by omega)
  · intro i j hi his hj hj2; rw [lo i his, m1 j hj hj2]; exact h.X _ _ hi (by omega) (by omega) (by omega)
  · intro i j hi hij hj; rw [m2 i hi (by omega), m2 j (by omega) hj]; exact h.L _ _ (by omega) (by omega) (by omega)
  · intro i j h0 hij hj; rw [hi i h0 (by omega), hi j (by omega) hj]; exact h.R _ _ (by omega) hij hj
  · intro i j h0 hie hj hjb; rw [m2 i h0 hie, hi j hj hjb]; exact h.X _ _ (by omega) (by omega) (by omega) hjb
  · intro i j h0 him hj hjb
    rcases Nat.lt_or_ge i s with c | c
    · rw [lo i c]
      rcases Nat.lt_or_ge j e with c2 | c2
      · rw [m2 j hj c2]; exact h.L _ _ h0 (by omega) (by omega)
      · rw [hi j c2 hjb]; exact h1 _ _ h0 c c2 hjb
    · rw [m1 i c him]
      rcases Nat.lt_or_ge j e with c2 | c2
      · rw [m2 j hj c2]; exact h2 _ _ (by omega) (by omega) (by omega) (by omega)
      · rw [hi j c2 hjb]; exact h.R _ _ (by omega) (by omega) hjb
theorem less2_perm {a m b : Nat} {d d' : Array α} (h : Less2 lt' a m m b d) (hp : PermIn a m d d') (hmd : m ≤ d.size) : Less2 lt' a m m b d' := by
  intro i j hi him hj hjb
  rw [hp.2.1 j (.inr hj)]
  exact Go.Sort.permIn_all d d' a m (fun x => lt' x d[j]! = true) hmd hp (fun i hi him => h i j hi him hj hjb) i hi him
theorem less2_perm' {a m b : Nat} {d d' : Array α} (h : Less2 lt' a m m b d) (hp : PermIn m b d d') (hbd : b ≤ d.size) : Less2 lt' a m m b d' := by
  intro i j hi him hj hjb
  rw [hp.2.1 i (.inl him)]
  exact Go.Sort.permIn_all d d' m b (fun x => lt' d[i]! x = true) hbd hp (fun j hj hjb => h i j hi him hj hjb) j hj hjb
theorem mpre_later {a m b m0 : Nat} {d d' : Array α} (h : MPre lt lt' a m b d) (hp : PermIn m0 a d d') : MPre lt lt' a m b d' := by
  have e : ∀ t, a ≤ t → d'[t]! = d[t]! := fun t ht => hp.2.1 t (.inr ht)
  refine ⟨h.am, h.mb, by rw [hp.1]; exact h.bd, ?_, ?_, ?_⟩
  · intro i j hi hij hj; rw [e i hi, e j (by omega)]; exact h.L i j hi hij hj
  · intro i j hi hij hj; have := h.am; rw [e i (by omega), e j (by omega)]; exact h.R i j hi hij hj
  · intro i j hi him hj hjb; have := h.am; rw [e i hi, e j (by omega)]; exact h.X i j hi him hj hjb
theorem srt_keep {a b m0 m1 : Nat} {d d' : Array α} (h : Srt lt' a b d) (hp : PermIn m0 m1 d d') (hd : b ≤ m0 ∨ m1 ≤ a) : Srt lt' a b d' := by
  intro i j hi hij hj
  rw [hp.2.1 i (by omega), hp.2.1 j (by omega)]; exact h i j hi hij hj
/-- The two halves of a cut, each sorted: the whole is. -/
theorem srt_join {a m b : Nat} {d d1 d2 : Array α} (hl : Less2 lt' a m m b d) (hmb : m ≤ b) (hbd : b ≤ d.size) (p1 : PermIn a m d d1) (s1 : Srt lt' a m d1) (p2 : PermIn m b d1 d2) (s2 : Srt lt' m b d2) : Srt lt' a b d2 :=
  srt_glue (srt_keep s1 p2 (.inl (Nat.le_refl _))) s2 (less2_perm' (less2_perm hl p1 (by omega)) p2 (by rw [p1.1]; exact hbd))
theorem mpre_srt {a m b : Nat} {d : Array α} (h : MPre lt lt' a m b d) (he : a = m ∨ m = b) : Srt lt' a b d := by
  rcases he with rfl | rfl
  · exact h.R
  · exact h.L
/-- One element put into a sorted row behind it. -/
theorem merge1_srt {a b i : Nat} {d d' : Array α} (h : MPre lt lt' a (a + 1) b d) (hr : IxTo (rotIx a (a + 1) i) d d') (h1 : a + 1 ≤ i) (h2 : i ≤ b) (lo : ∀ t, a + 1 ≤ t → t < i → lt' d[t]! d[a]! = true) (hi : ∀ t, i ≤ t → t < b → lt' d[a]! d[t]! = true) : Srt lt' a b d' := by
  have bd := h.bd
  have f1 : ∀ t, a ≤ t → t + 1 < i → d'[t]! = d[t + 1]! := fun t ht ht2 => by rw [hr.2 t (by omega)]; congr 1; unfold rotIx; (repeat' split) <;> omega
  have f2 : d'[i - 1]! = d[a]! := by rw [hr.2 (i - 1) (by omega)]; congr 1; unfold rotIx; (repeat' split) <;> omega
  have f3 : ∀ t, i ≤ t → t < b → d'[t]! = d[t]! := fun t ht ht2 => by rw [hr.2 t (by omega)]; congr 1; unfold rotIx; (repeat' split) <;> omega
  intro x y hx hxy hy
  rcases Nat.lt_trichotomy y (i - 1) with c | c | c
  · rw [f1 x hx (by omega), f1 y (by omega) (by omega)]; exact h.R _ _ (by omega) (by omega) (by omega)
  · rw [f1 x hx (by omega), c, f2]; exact lo _ (by omega) (by omega)
  · rw [f3 y (by omega) hy]
    rcases Nat.lt_trichotomy x (i - 1) with c2 | c2 | c2
    · rw [f1 x hx (by omega)]; exact h.R _ _ (by omega) (by omega) hy
    · rw [c2, f2]; exact hi _ (by omega) hy
    · rw [f3 x (by omega) (by omega)]; exact h.R _ _ (by omega) hxy hy
/-- One element put into a sorted row ahead of it. -/
theorem merge2_srt {a m i : Nat} {d d' : Array α} (h : MPre lt lt' a m (m + 1) d) (hr : IxTo (rotIx i m (m + 1)) d d') (h1 : a ≤ i) (h2 : i ≤ m) (lo : ∀ t, a ≤ t → t < i → lt' d[t]! d[m]! = true) (hi : ∀ t, i ≤ t → t < m → lt' d[m]! d[t]! = true) : Srt lt' a (m + 1) d' := by
  have bd := h.bd
  have f1 : ∀ t, t < i → d'[t]! = d[t]! := fun t ht => by rw [hr.2 t (by omega)]; congr 1; unfold rotIx; (repeat' split) <;> omega
  have f2 : d'[i]! = d[m]! := by rw [hr.2 i (by omega)]; congr 1; unfold rotIx; (repeat' split) <;> omega
  have f3 : ∀ t, i < t → t < m + 1 → d'[t]! = d[t - 1]! := fun t ht ht2 => by rw [hr.2 t (by omega)]; congr 1; unfold rotIx; (repeat' split) <;> omega
  intro x y hx hxy hy
  rcases Nat.lt_trichotomy y i with c | c | c
  · rw [f1 x (by omega), f1 y c]; exact h.L _ _ hx hxy (by omega)
  · rw [f1 x (by omega), c, f2]; exact lo _ hx (by omega)
  · rw [f3 y c hy]
    rcases Nat.lt_trichotomy x i with c2 | c2 | c2
    · rw [f1 x c2]; exact h.L _ _ hx (by omega) (by omega)
    · rw [c2, f2]; exact hi _ (by omega) (by omega)
    · rw [f3 x c2 (by omega)]; exact h.L _ _ (by omega) (by omega) (by omega)
/-- The cut that the search of a merge has found. -/
theorem sym_cut {a m b s0 r0 s nn : Nat} {d : Array α} (h : MPre lt lt' a m b d) (tr : ∀ x y z, lt' x y = true → lt' y z = true → lt' x z = true) (f1 : a ≤ s0) (f2 : r0 ≤ m) (g1 : nn - s0 ≤ b) (g2 : m ≤ nn - r0) (hs0 : s0 ≤ s) (hsr : s ≤ r0) (hnn : r0 ≤ nn)
    (e1 : s0 = a ∨ nn - s0 = b) (e2 : r0 = m ∨ nn - r0 = m) (lo : ∀ t, s0 ≤ t → t < s → lt' d[t]! d[nn - 1 - t]! = true) (hi : ∀ t, s ≤ t → t < r0 → lt' d[nn - 1 - t]! d[t]! = true) :
    Less2 lt' a s (nn - s) b d ∧ ∀ i j, s ≤ i → i < m → m ≤ j → j < nn - s → lt' d[j]! d[i]! = true := by
  constructor
  · intro i j hi1 hi2 hj1 hj2
    have hs : s0 < s := by omega
    have h0 := lo (s - 1) (by omega) (by omega)
    rw [show nn - 1 - (s - 1) = nn - s by omega] at h0
    have h1 : lt' d[i]! d[nn - s]! = true := by
      rcases Nat.lt_or_ge i (s - 1) with c | c
      · exact tr _ _ _ (h.L i (s - 1) hi1 c (by omega)) h0
      · obtain rfl : i = s - 1 := by omega
        exact h0
    rcases Nat.lt_or_ge (nn - s) j with c | c
    · exact tr _ _ _ h1 (h.R (nn - s) j (by omega) c hj2)
    · obtain rfl : j = nn - s := by omega
      exact h1
  · intro i j hi1 hi2 hj1 hj2
    have hs : s < r0 := by omega
    have h0 := hi s (Nat.le_refl _) hs
    rw [show nn - 1 - s = nn - s - 1 by omega] at h0
    have h1 : lt' d[nn - s - 1]! d[i]! = true := by
      rcases Nat.lt_or_ge s i with c | c
      · exact tr _ _ _ h0 (h.L s i (by omega) c hi2)
      · obtain rfl : i = s := by omega
        exact h0
    rcases Nat.lt_or_ge j (nn - s - 1) with c | c
    · exact tr _ _ _ (h.R j (nn - s - 1) hj1 c (by omega)) h1
    · obtain rfl : j = nn - s - 1 := by omega
      exact h1
end
end Go.Proofs.Ythdejhningghcaa
