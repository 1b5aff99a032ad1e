import Derived.Test.YthdejhningghcaaMg40
/- StableQ: plain laws of a stable sort: insertion, blocks. -/
namespace Go.Proofs.Ythdejhningghcaa
open Go.Sort (swp PermIn)

section
variable {α : Type} [Inhabited α] {lt lt' : α → α → Bool} {d0 : Array α} {n : Nat}
/-- Comparisons of a later one with an earlier one of d0 settle as lt' does. -/
def Base (lt lt' : α → α → Bool) (d0 : Array α) (a b : Nat) : Prop := ∀ i j, a ≤ i → i < j → j < b → (lt d0[j]! d0[i]! = true → lt' d0[j]! d0[i]! = true) ∧ (lt d0[j]! d0[i]! = false → lt' d0[i]! d0[j]! = true)
/-- One element on its way down: at place j of [a, i], all others sorted. -/
structure InsAt (lt' : α → α → Bool) (d : Array α) (a i j : Nat) (dj : Array α) : Prop where
  P : PermIn a (i + 1) d dj
  A : ∀ p q, a ≤ p → p < q → q ≤ i → p ≠ j → q ≠ j → lt' dj[p]! dj[q]! = true
  B : ∀ q, j < q → q ≤ i → lt' dj[j]! dj[q]! = true
  C : dj[j]! = d[i]!
  D : ∀ p, a ≤ p → p ≤ i → p ≠ j → ∃ u, a ≤ u ∧ u < i ∧ dj[p]! = d[u]!
theorem insAt_start {d dk : Array α} {a i : Nat} (hp : PermIn a i d dk) (hs : Srt lt' a i dk) (hi : i < d.size) : InsAt lt' d a i i dk := by
  refine ⟨Go.Sort.permIn_mono _ _ a i a (i + 1) (Nat.le_refl _) (Nat.le_succ _) (by omega) hp, fun p q h1 h2 h3 h4 h5 => hs p q h1 h2 (by omega), fun q h1 h2 => by omega, hp.2.1 i (.inr (Nat.le_refl _)), fun p h1 h2 h3 => ?_⟩
  obtain ⟨u, h4, h5, h6⟩ := Go.Sort.permIn_all d dk a i (fun x => ∃ u, a ≤ u ∧ u < i ∧ x = d[u]!) (by omega) hp (fun t h1 h2 => ⟨t, h1, h2, rfl⟩) p h1 (by omega)
  exact ⟨u, h4, h5, h6⟩
theorem insAt_step {d dj : Array α} {a i j b : Nat} (h : InsAt lt' d a i j dj) (hb : Base lt lt' d a b) (hib : i < b) (haj : a < j) (hji : j ≤ i) (hi : i < d.size) (hl : lt dj[j]! dj[j - 1]! = true) : InsAt lt' d a i (j - 1) (swp dj j (j - 1)) := by
  obtain ⟨u, hu1, hu2, hu3⟩ := h.D (j - 1) (by omega) (by omega) (by omega)
  have hsz : dj.size = d.size := h.P.1
  have hlt : lt' dj[j]! dj[j - 1]! = true := by
    rw [h.C, hu3] at hl ⊢
    exact (hb u i hu1 hu2 hib).1 hl
  have s1 : (swp dj j (j - 1))[j]! = dj[j - 1]! := Go.Sort.swp_left _ _ _ (by omega) (by omega)
  have s2 : (swp dj j (j - 1))[j - 1]! = dj[j]! := Go.Sort.swp_right _ _ _ (by omega)
  have s3 : ∀ t, t ≠ j → t ≠ j - 1 → (swp dj j (j - 1))[t]! = dj[t]! := fun t h1 h2 => Go.Sort.swp_other _ _ _ _ h1 h2
  refine ⟨Go.Sort.permIn_trans _ _ _ _ _ h.P (Go.Sort.swp_permIn dj a (i + 1) j (j - 1) (by omega) (by omega) (by omega) (by omega) (by omega)), fun p q h1 h2 h3 h4 h5 => ?_, fun q h1 h2 => ?_, by rw [s2]; exact h.C, fun p h1 h2 h3 => ?_⟩
  · by_cases hq : q = j
    · subst hq
      rw [s1, s3 p (by omega) h4]
      exact h.A p (q - 1) h1 (by omega) (by omega) (by omega) (by omega)
    · by_cases hp : p = j
      · subst hp
        rw [s1, s3 q hq h5]
        exact h.A (p - 1) q (by omega) (by omega) h3 (by omega) hq
      · rw [s3 p hp h4, s3 q hq h5]
        exact h.A p q h1 h2 h3 hp hq
  · rw [s2]
    by_cases hq : q = j
    · subst hq; rw [s1]; exact hlt
    · rw [s3 q hq (by omega)]; exact h.B q (by omega) h2
  · by_cases hp : p = j
    · subst hp; rw [s1]; exact ⟨u, hu1, hu2, hu3⟩
    · rw [s3 p hp h3]; exact h.D p h1 h2 hp
theorem insAt_stop {d dj : Array α} {a i j b : Nat} (h : InsAt lt' d a i j dj) (tr : ∀ x y z, lt' x y = true → lt' y z = true → lt' x z = true) (hb : Base lt lt' d a b) (hib : i < b) (haj : a ≤ j) (hji : j ≤ i) (hs : j = a ∨ lt dj[j]! dj[j - 1]! = false) : Srt lt' a (i + 1) dj := by
  intro p q h1 h2 h3
  by_cases hp : p = j
  · subst hp; exact h.B q h2 (by omega)
  · by_cases hq : q = j
    · subst hq
      rcases hs with hs | hs
      · omega
      · obtain ⟨u, hu1, hu2, hu3⟩ := h.D (q - 1) (by omega) (by omega) (by omega)
        have hl : lt' dj[q - 1]! dj[q]! = true := by
          rw [h.C, hu3] at hs ⊢
          exact (hb u i hu1 hu2 hib).2 hs
        rcases Nat.lt_or_ge p (q - 1) with c | c
        · exact tr _ _ _ (h.A p (q - 1) h1 c (by omega) hp (by omega)) hl
        · obtain rfl : p = q - 1 := by omega
          exact hl
    · exact h.A p q h1 h2 (by omega) hp hq
/-! ### Blocks -/
structure Blk (lt' : α → α → Bool) (d0 : Array α) (a b : Nat) (d : Array α) : Prop where
  S : Srt lt' a b d
  F : ∀ i, a ≤ i → i < b → ∃ u, a ≤ u ∧ u < b ∧ d[i]! = d0[u]!
theorem Blk.congr {a b : Nat} {d d' : Array α} (h : Blk lt' d0 a b d) (he : ∀ t, a ≤ t → t < b → d'[t]! = d[t]!) : Blk lt' d0 a b d' :=
  ⟨fun i j h1 h2 h3 => by rw [he i h1 (by omega), he j (by omega) h3]; exact h.S i j h1 h2 h3, fun i h1 h2 => by rw [he i h1 h2]; exact h.F i h1 h2⟩
theorem blk_fresh {a b : Nat} {d d' : Array α} (he : ∀ t, a ≤ t → d[t]! = d0[t]!) (hb : b ≤ d.size) (hp : PermIn a b d d') (hs : Srt lt' a b d') : Blk lt' d0 a b d' :=
  ⟨hs, fun i h1 h2 => Go.Sort.permIn_all d d' a b (fun x => ∃ u, a ≤ u ∧ u < b ∧ x = d0[u]!) hb hp (fun t h1 h2 => ⟨t, h1, h2, he t h1⟩) i h1 h2⟩
theorem blk_merge {a m b : Nat} {d d' : Array α} (h1 : Blk lt' d0 a m d) (h2 : Blk lt' d0 m b d) (hb : b ≤ d.size) (ham : a ≤ m) (hmb : m ≤ b) (hp : PermIn a b d d') (hs : Srt lt' a b d') : Blk lt' d0 a b d' :=
  ⟨hs, fun i h3 h4 => Go.Sort.permIn_all d d' a b (fun x => ∃ u, a ≤ u ∧ u < b ∧ x = d0[u]!) hb hp (fun t h5 h6 => by
    rcases Nat.lt_or_ge t m with c | c
    · obtain ⟨u, h7, h8, h9⟩ := h1.F t h5 c
      exact ⟨u, h7, by omega, h9⟩
    · obtain ⟨u, h7, h8, h9⟩ := h2.F t c h6
      exact ⟨u, by omega, h8, h9⟩) i h3 h4⟩
theorem blk_mpre {a m b : Nat} {d : Array α} (h1 : Blk lt' d0 a m d) (h2 : Blk lt' d0 m b d) (hb : b ≤ d.size) (ham : a ≤ m) (hmb : m ≤ b) (hB : Base lt lt' d0 0 n) (hbn : b ≤ n) : MPre lt lt' a m b d := by
  refine ⟨ham, hmb, hb, h1.S, h2.S, fun i j h3 h4 h5 h6 => ?_⟩
  obtain ⟨u, u1, u2, u3⟩ := h1.F i h3 h4
  obtain ⟨v, v1, v2, v3⟩ := h2.F j h5 h6
  rw [u3, v3]
  exact hB u v (Nat.zero_le _) (by omega) (by omega)
/-- [x, n) is tiled by blocks of s places, the last one perhaps shorter. -/
inductive Tiles (lt' : α → α → Bool) (d0 : Array α) (n s : Nat) (d : Array α) : Nat → Prop
  | done {x : Nat} (h : n ≤ x) : Tiles lt' d0 n s d x
  | more {x : Nat} (h : x < n) (hb : Blk lt' d0 x (min (x + s) n) d) (ht : Tiles lt' d0 n s d (x + s)) : Tiles lt' d0 n s d x
theorem Tiles.head {s x : Nat} {d : Array α} (h : Tiles lt' d0 n s d x) (hx : x < n) : Blk lt' d0 x (min (x + s) n) d ∧ Tiles lt' d0 n s d (x + s) := by
  cases h with
  | done h => omega
  | more _ hb ht => exact ⟨hb, ht⟩
theorem Tiles.congr {s x : Nat} {d d' : Array α} (h : Tiles lt' d0 n s d x) (he : ∀ t, x ≤ t → d'[t]! = d[t]!) : Tiles lt' d0 n s d' x := by
  induction h with
  | done h => exact .done h
  | more h hb _ ih => exact .more h (hb.congr fun t h1 _ => he t h1) (ih fun t h1 => he t (by omega))
/-- What stands below a place already: it is tiled as soon as the rest is. -/
def Front (lt' : α → α → Bool) (d0 : Array α) (n s : Nat) (d : Array α) (a : Nat) : Prop := ∀ d' : Array α, (∀ t, t < a → d'[t]! = d[t]!) → Tiles lt' d0 n s d' a → Tiles lt' d0 n s d' 0
theorem front_zero (s : Nat) (d : Array α) : Front lt' d0 n s d 0 := fun _ _ h => h
theorem front_more {s a : Nat} {d d' : Array α} (h : Front lt' d0 n s d a) (hp : PermIn a (a + s) d d') (hb : Blk lt' d0 a (a + s) d') (hs : 0 < s) (han : a + s ≤ n) : Front lt' d0 n s d' (a + s) := by
  intro d'' he ht
  refine h d'' (fun t ht => by rw [he t (by omega), hp.2.1 t (.inl ht)]) (.more (by omega) ?_ ht)
  rw [Nat.min_eq_left han]
  exact hb.congr fun t _ h2 => he t h2
end
end Go.Proofs.Ythdejhningghcaa
