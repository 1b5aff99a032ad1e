import Derived.Test.YthdejhningghcaaMg16
/- OkRot: plain: a pattern's rotations, its root and its canonical form are patterns. -/
namespace Go.Proofs.Ythdejhningghcaa
open Go.RowKit

theorem ok_apart {l : List Int} (h : okPat l = true) {a b : Nat} (ha : a < l.length) (hb : b < l.length) (e : land l a = land l b) : a = b := by
  have hc : clashFree l = true := by unfold okPat at h; rw [Bool.and_eq_true] at h; exact h.2
  rw [clashFree_iff] at hc
  rcases Nat.lt_trichotomy a b with h1 | h1 | h1
  · exact absurd e ((rowFree_iff l b).1 (hc b hb) a h1)
  · exact h1
  · exact absurd e.symm ((rowFree_iff l a).1 (hc a ha) b h1)
theorem ok_of {l : List Int} (h1 : 1 ≤ l.length) (h2 : l.length ≤ 12) (ht : ∀ x ∈ l, 0 ≤ x ∧ x ≤ 15) (ha : ∀ a b, a < b → b < l.length → land l a ≠ land l b) : okPat l = true := by
  have h3 : throwsB l = true := by
    unfold throwsB
    have h3 : throwsF l = true := by
      clear h1 h2 ha
      induction l with
      | nil => rfl
      | cons x l ih =>
        have := ht x (List.mem_cons_self ..)
        simp only [throwsF, ih (fun y hy => ht y (List.mem_cons_of_mem _ hy)), Bool.and_true, inB, Bool.and_eq_true, decide_eq_true_eq]
        omega
    rw [h3]; unfold inB; simp; omega
  unfold okPat
  rw [h3, Bool.true_and, clashFree_iff]
  intro b hb
  rw [rowFree_iff]
  exact fun a hab => ha a b hab hb
theorem ok_in {l : List Int} (h : okPat l = true) : 1 ≤ l.length ∧ l.length ≤ 12 ∧ ∀ x ∈ l, 0 ≤ x ∧ x ≤ 15 := by
  have ht := throwsB_nth (okPat_throws h)
  refine ⟨ht.2.1, ht.2.2, fun x hx => ?_⟩
  obtain ⟨i, hi, rfl⟩ := List.getElem_of_mem hx
  have := ht.1 i hi
  rwa [nth_eq l i hi] at this
theorem nth_rot (l : List Int) (k i : Nat) (hi : i < l.length) : nth (rotL l k) i = nth l ((i + k) % l.length) := by
  rw [nth_eq _ _ (by rw [rotL_len]; exact hi)]
  simp [rotL]
theorem land_rot (l : List Int) (k i : Nat) (hi : i < l.length) : land l ((i + k) % l.length) = (land (rotL l k) i + (k : Int)) % (l.length : Int) := by
  unfold land
  rw [rotL_len, nth_rot l k i hi, Int.emod_add_emod]
  rw [Int.natCast_emod, Int.emod_add_emod]
  congr 1
  rw [Int.natCast_add]; omega
theorem okPat_rot {l : List Int} (h : okPat l = true) (k : Nat) : okPat (rotL l k) = true := by
  obtain ⟨h1, h2, h3⟩ := ok_in h
  refine ok_of (by rw [rotL_len]; exact h1) (by rw [rotL_len]; exact h2) (fun x hx => h3 x ((mem_rot l k (by omega) x).1 hx)) ?_
  intro a b hab hb e
  rw [rotL_len] at hb
  have e2 : land l ((a + k) % l.length) = land l ((b + k) % l.length) := by rw [land_rot l k a (by omega), land_rot l k b hb, e]
  have e3 := ok_apart h (Nat.mod_lt _ (by omega)) (Nat.mod_lt _ (by omega)) e2
  have e4 : (((a + k : Nat) : Int) - ((b + k : Nat) : Int)) % (l.length : Int) = 0 := by
    have : ((a + k : Nat) : Int) % (l.length : Int) = ((b + k : Nat) : Int) % (l.length : Int) := by
      rw [← Int.natCast_emod, ← Int.natCast_emod, e3]
    exact Int.emod_eq_emod_iff_emod_sub_eq_zero.1 this
  have hd := Int.dvd_of_emod_eq_zero e4
  obtain ⟨c, hc⟩ := hd
  have hc0 : c = 0 := by
    rcases Int.lt_trichotomy c 0 with h0 | h0 | h0
    · have : (l.length : Int) * c ≤ (l.length : Int) * (-1) := Int.mul_le_mul_of_nonneg_left (by omega) (by omega)
      omega
    · exact h0
    · have : (l.length : Int) * 1 ≤ (l.length : Int) * c := Int.mul_le_mul_of_nonneg_left (by omega) (by omega)
      omega
  rw [hc0] at hc
  omega
/-- What is a pattern when it is said m times is one. -/
theorem okPat_rep {r : List Int} {m : Nat} (hr : 0 < r.length) (hm : 0 < m) (h : okPat (repL r m) = true) : okPat r = true := by
  obtain ⟨h1, h2, h3⟩ := ok_in h
  rw [repL_len] at h1 h2
  obtain ⟨m', rfl⟩ : ∃ m', m = m' + 1 := ⟨m - 1, by omega⟩
  have hle : r.length ≤ (m' + 1) * r.length := by rw [Nat.succ_mul]; omega
  refine ok_of hr (by omega) (fun x hx => h3 x ((mem_rep r x m').2 hx)) ?_
  intro a b hab hb e
  unfold land at e
  have e0 := Int.emod_eq_emod_iff_emod_sub_eq_zero.1 e
  obtain ⟨c, hc⟩ := Int.dvd_of_emod_eq_zero e0
  -- (a + ra) - (b + rb) = r c ; take t with b + t r : land = land of a
  obtain ⟨t, ht, hq⟩ : ∃ t : Nat, t < m' + 1 ∧ (c - (t : Int)) % ((m' + 1 : Nat) : Int) = 0 := by
    have h5 := Int.emod_nonneg c (show ((m' + 1 : Nat) : Int) ≠ 0 by omega)
    have h6 := Int.emod_lt_of_pos c (show (0 : Int) < ((m' + 1 : Nat) : Int) by omega)
    refine ⟨(c % ((m' + 1 : Nat) : Int)).toNat, by omega, ?_⟩
    rw [Int.toNat_of_nonneg h5, Int.sub_emod, Int.emod_emod_of_dvd _ (Int.dvd_refl _), Int.sub_self]; rfl
  obtain ⟨d, hd⟩ := Int.dvd_of_emod_eq_zero hq
  have hbl : b + t * r.length < (m' + 1) * r.length := by
    have : (t + 1) * r.length ≤ (m' + 1) * r.length := Nat.mul_le_mul_right _ (by omega)
    rw [Nat.succ_mul] at this; omega
  have hal : a < (m' + 1) * r.length := by omega
  have hna : nth (repL r (m' + 1)) a = nth r a := by rw [nth_rep r hr _ _ hal, Nat.mod_eq_of_lt (by omega)]
  have hnb : nth (repL r (m' + 1)) (b + t * r.length) = nth r b := by rw [nth_rep r hr _ _ hbl, Nat.add_mul_mod_self_right, Nat.mod_eq_of_lt hb]
  have e5 : land (repL r (m' + 1)) a = land (repL r (m' + 1)) (b + t * r.length) := by
    unfold land
    rw [hna, hnb, repL_len]
    refine Int.emod_eq_emod_iff_emod_sub_eq_zero.2 (Int.emod_eq_zero_of_dvd ⟨d, ?_⟩)
    have e6 : ((a : Int) + nth r a) - ((b : Int) + nth r b) = (r.length : Int) * c := hc
    have e7 : (((m' + 1) * r.length : Nat) : Int) * d = (r.length : Int) * (c - (t : Int)) := by
      rw [hd]; push_cast; rw [Int.mul_comm ((m' : Int) + 1) (r.length : Int), Int.mul_assoc]
    rw [e7, Int.mul_sub, ← e6]
    push_cast
    rw [Int.mul_comm (t : Int) (r.length : Int)]; omega
  have e8 := ok_apart h (by rw [repL_len]; exact hal) (by rw [repL_len]; exact hbl) e5
  omega
theorem okPat_root {l : List Int} (h : okPat l = true) : okPat (rootL l) = true := by
  obtain ⟨h1, h2, h3⟩ := ok_in h
  have hp := rootK_pos l h1
  have hle := rootK_le l
  exact okPat_rep (m := l.length / rootK l) (by rw [rootL_len]; exact hp) (Nat.div_pos hle hp) (by rw [root_rep l h1]; exact h)
theorem okPat_foldl (r : List Int) (h : okPat r = true) : ∀ (ks : List Nat) (best : List Int), okPat best = true → okPat (ks.foldl (canStep r) best) = true
  | [], _, hb => hb
  | k :: ks, best, hb => okPat_foldl r h ks _ (by unfold canStep; split; exact okPat_rot h k; exact hb)
theorem okPat_can {l : List Int} (h : okPat l = true) : okPat (canL l) = true := by
  unfold canL; exact okPat_foldl _ (okPat_root h) _ _ (okPat_root h)
theorem gradeF_in (d : Int) : ∀ (f : Nat) (g lim : Int), g ≤ gradeF d f g lim ∧ gradeF d f g lim ≤ g + (f : Int)
  | 0, g, lim => by simp [gradeF]
  | f + 1, g, lim => by
    unfold gradeF
    split
    · omega
    · have := gradeF_in d f (g + 1) (lim + (10000 + 2000 * (g + 1)))
      omega
theorem gradeL_in (l : List Int) : 1 ≤ gradeL l ∧ gradeL l ≤ 10 := by
  have := gradeF_in (hardL l) 9 1 10000
  unfold gradeL; omega
end Go.Proofs.Ythdejhningghcaa
