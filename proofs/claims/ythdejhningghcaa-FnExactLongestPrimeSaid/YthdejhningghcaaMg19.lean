import Derived.Test.YthdejhningghcaaMg18
/- PrimeL: plain: states of patterns and ways through states. -/
namespace Go.Proofs.Ythdejhningghcaa
open Go.RowKit

/-! ### Masks -/
def canM (H m t : Nat) : Bool := if t = 0 then !(m.testBit 0) else m.testBit 0 && (decide (t ≤ H) && !(m.testBit t))
def nextM (m t : Nat) : Nat := if t = 0 then m >>> 1 else (m >>> 1) ||| (1 <<< (t - 1))
theorem nextM_bit (m t k : Nat) : (nextM m t).testBit k = (m.testBit (k + 1) || decide (t = k + 1)) := by
  unfold nextM
  by_cases h : t = 0
  · rw [if_pos h, Nat.testBit_shiftRight, decide_eq_false (by omega), Bool.or_false, Nat.add_comm]
  · rw [if_neg h, Nat.testBit_or, Nat.testBit_shiftRight, Nat.one_shiftLeft, Nat.testBit_two_pow, Nat.add_comm 1 k]
    congr 1
    by_cases h2 : t = k + 1
    · rw [decide_eq_true h2, decide_eq_true (by omega)]
    · rw [decide_eq_false h2, decide_eq_false (by omega)]
/-- A way through masks that comes round again after P throws. -/
structure Wk (H P : Nat) (T M : Nat → Nat) : Prop where
  can : ∀ b, canM H (M b) (T b) = true
  next : ∀ b, M (b + 1) = nextM (M b) (T b)
  hi : ∀ b k, H ≤ k → (M b).testBit k = false
  perT : ∀ b, T (b + P) = T b
  perM : ∀ b, M (b + P) = M b
section
variable {H P : Nat} {T M : Nat → Nat}
theorem Wk.perT' (h : Wk H P T M) (b : Nat) : ∀ c, T (b + c * P) = T b
  | 0 => by simp
  | c + 1 => by rw [Nat.succ_mul, ← Nat.add_assoc, h.perT, h.perT' b c]
theorem Wk.perM' (h : Wk H P T M) (b : Nat) : ∀ c, M (b + c * P) = M b
  | 0 => by simp
  | c + 1 => by rw [Nat.succ_mul, ← Nat.add_assoc, h.perM, h.perM' b c]
theorem Wk.bit (h : Wk H P T M) (b k : Nat) : (M (b + 1)).testBit k = ((M b).testBit (k + 1) || decide (T b = k + 1)) := by rw [h.next b, nextM_bit]
theorem Wk.set (h : Wk H P T M) (f : Nat) : ∀ j, 1 ≤ j → j ≤ T f → (M (f + j)).testBit (T f - j) = true
  | 0, h1, _ => absurd h1 (by omega)
  | 1, _, h2 => by rw [h.bit, decide_eq_true (by omega), Bool.or_true]
  | j + 2, _, h2 => by
    have ih := h.set f (j + 1) (by omega) (by omega)
    rw [show f + (j + 2) = f + (j + 1) + 1 by omega, h.bit, show T f - (j + 2) + 1 = T f - (j + 1) by omega, ih, Bool.true_or]
theorem Wk.src (h : Wk H P T M) : ∀ (d k b : Nat), H ≤ k + d → d ≤ b → (M b).testBit k = true → ∃ j, 1 ≤ j ∧ j ≤ b ∧ T (b - j) = k + j
  | 0, k, b, h1, _, hb => by rw [h.hi b k (by omega)] at hb; exact absurd hb (by decide)
  | d + 1, k, b, h1, h2, hb => by
    obtain ⟨b', rfl⟩ : ∃ b', b = b' + 1 := ⟨b - 1, by omega⟩
    rw [h.bit, Bool.or_eq_true] at hb
    rcases hb with hb | hb
    · obtain ⟨j, a1, a2, a3⟩ := h.src d (k + 1) b' (by omega) (by omega) hb
      exact ⟨j + 1, by omega, by omega, by rw [show b' + 1 - (j + 1) = b' - j by omega, a3]; omega⟩
    · exact ⟨1, by omega, by omega, by simpa using of_decide_eq_true hb⟩
theorem Wk.le (h : Wk H P T M) (b : Nat) : T b ≤ H := by
  have := h.can b
  unfold canM at this
  by_cases h0 : T b = 0
  · omega
  · rw [if_neg h0, Bool.and_eq_true, Bool.and_eq_true] at this
    exact of_decide_eq_true this.2.1
theorem Wk.apart (h : Wk H P T M) {f g : Nat} (hfg : f < g) (e : f + T f = g + T g) : False := by
  have h1 := h.set f (g - f) (by omega) (by omega)
  rw [show f + (g - f) = g by omega, show T f - (g - f) = T g by omega] at h1
  have h2 := h.can g
  unfold canM at h2
  by_cases h0 : T g = 0
  · rw [h0] at h1
    rw [if_pos h0, h1] at h2
    exact absurd h2 (by decide)
  · rw [if_neg h0, h1] at h2
    simp at h2
end
/-! ### Patterns -/
def thr (p : List Int) (b : Nat) : Nat := (nth p (b % p.length)).toNat
/-- The throw that lands at a beat. -/
def fromV (p : List Int) (m : Nat) : Nat := match (List.range p.length).find? (fun i => (i + thr p i) % p.length == m % p.length) with
  | some i => thr p i
  | none => 0
def bitP (p : List Int) (b t : Nat) : Bool := decide (t < fromV p (b + t))
def maskTo (p : List Int) (b : Nat) : Nat → Nat
  | 0 => 0
  | h + 1 => if bitP p b h then maskTo p b h ||| (1 <<< h) else maskTo p b h
theorem maskTo_bit (p : List Int) (b k : Nat) : ∀ h, (maskTo p b h).testBit k = (decide (k < h) && bitP p b k)
  | 0 => by simp [maskTo]
  | h + 1 => by
    unfold maskTo
    by_cases hb : bitP p b h = true
    · rw [if_pos hb, Nat.testBit_or, maskTo_bit p b k h, Nat.one_shiftLeft, Nat.testBit_two_pow]
      by_cases e : h = k
      · subst e; simp [hb]
      · rw [decide_eq_false e, Bool.or_false]
        congr 1
        by_cases h2 : k < h
        · rw [decide_eq_true h2, decide_eq_true (by omega)]
        · rw [decide_eq_false h2, decide_eq_false (by omega)]
    · rw [if_neg hb, maskTo_bit p b k h]
      by_cases e : h = k
      · subst e; simp at hb; simp [hb]
      · congr 1
        by_cases h2 : k < h
        · rw [decide_eq_true h2, decide_eq_true (by omega)]
        · rw [decide_eq_false h2, decide_eq_false (by omega)]
theorem thr_mod (p : List Int) (b : Nat) : thr p (b % p.length) = thr p b := by unfold thr; rw [Nat.mod_mod]
theorem thr_add (p : List Int) (b : Nat) : thr p (b + p.length) = thr p b := by unfold thr; rw [Nat.add_mod_right]
theorem fromV_mod (p : List Int) {m k : Nat} (h : m % p.length = k % p.length) : fromV p m = fromV p k := by unfold fromV; rw [h]
theorem fromV_le {p : List Int} {H : Nat} (h : ∀ x ∈ p, x ≤ (H : Int)) (m : Nat) : fromV p m ≤ H := by
  unfold fromV
  split
  · rename_i i hi
    have hlt := List.mem_range.1 (List.mem_of_find?_eq_some hi)
    have := h _ (mem_nth (l := p) (i := i % p.length) (Nat.mod_lt _ (by omega)))
    unfold thr; omega
  · omega
theorem land_thr {p : List Int} (hp : ∀ x ∈ p, 0 ≤ x) {i : Nat} (hi : i < p.length) : land p i = (((i + thr p i) % p.length : Nat) : Int) := by
  have h0 := hp _ (mem_nth hi)
  unfold land thr
  rw [Nat.mod_eq_of_lt hi, Int.natCast_emod, Int.natCast_add, Int.toNat_of_nonneg h0]
theorem from_eq {p : List Int} (hp : okPat p = true) {f m : Nat} (e : f + thr p f = m) : fromV p m = thr p f := by
  obtain ⟨h1, h2, h3⟩ := ok_in hp
  have h0 : ∀ x ∈ p, 0 ≤ x := fun x hx => (h3 x hx).1
  have hfl : f % p.length < p.length := Nat.mod_lt _ (by omega)
  have hme : (f % p.length + thr p (f % p.length)) % p.length = m % p.length := by rw [thr_mod, Nat.mod_add_mod, e]
  unfold fromV
  split
  · rename_i i hi
    have hil := List.mem_range.1 (List.mem_of_find?_eq_some hi)
    have hie := List.find?_some hi
    have hie : (i + thr p i) % p.length = m % p.length := by simpa using hie
    have : i = f % p.length := ok_apart hp hil hfl (by rw [land_thr h0 hil, land_thr h0 hfl, hie, hme])
    rw [this, thr_mod]
  · rename_i hn
    have := List.find?_eq_none.1 hn (f % p.length) (List.mem_range.2 hfl)
    rw [hme] at this
    simp at this
theorem nodup_sub {l m : List Nat} : l.Nodup → (∀ x ∈ l, x ∈ m) → l.length ≤ m.length := by
  induction l generalizing m with
  | nil => intro _ _; simp
  | cons x l ih =>
    intro hn hs
    obtain ⟨h1, h2⟩ := List.nodup_cons.1 hn
    have hx := hs x (List.mem_cons_self ..)
    have h3 := ih (m := m.erase x) h2 (fun y hy => (List.mem_erase_of_ne (fun e : y = x => h1 (by rw [← e]; exact hy))).2 (hs y (List.mem_cons_of_mem _ hy)))
    rw [List.length_erase_of_mem hx] at h3
    have := List.length_pos_of_mem hx
    simp only [List.length_cons]; omega
theorem from_ex {p : List Int} (hp : okPat p = true) (m : Nat) : ∃ i, i < p.length ∧ (i + thr p i) % p.length = m % p.length ∧ fromV p m = thr p i := by
  obtain ⟨h1, h2, h3⟩ := ok_in hp
  have h0 : ∀ x ∈ p, 0 ≤ x := fun x hx => (h3 x hx).1
  have hex : ∃ i, i < p.length ∧ (i + thr p i) % p.length = m % p.length := by
    refine Decidable.byContradiction fun hno => ?_
    have hnd : ((List.range p.length).map fun i => (i + thr p i) % p.length).Nodup := by
      rw [List.Nodup, List.pairwise_iff_getElem]
      intro i j hi hj hij e
      simp only [List.length_map, List.length_range] at hi hj
      simp only [List.getElem_map, List.getElem_range] at e
      have := ok_apart hp hi hj (by rw [land_thr h0 hi, land_thr h0 hj, e])
      omega
    have hle := nodup_sub (m := (List.range p.length).erase (m % p.length)) hnd (fun x hx => by
      obtain ⟨i, hi, rfl⟩ := List.mem_map.1 hx
      have hi := List.mem_range.1 hi
      exact (List.mem_erase_of_ne (fun e => hno ⟨i, hi, e⟩)).2 (List.mem_range.2 (Nat.mod_lt _ (by omega))))
    rw [List.length_erase_of_mem (List.mem_range.2 (Nat.mod_lt _ (by omega))), List.length_map, List.length_range] at hle
    omega
  obtain ⟨i, hi, e⟩ := hex
  refine ⟨i, hi, e, ?_⟩
  rw [← from_eq hp (f := i) rfl]
  exact fromV_mod p e.symm
/-- The states of a pattern are a way. -/
theorem pat_wk {p : List Int} (hp : okPat p = true) {H : Nat} (hH : ∀ x ∈ p, x ≤ (H : Int)) : Wk H p.length (thr p) (fun b => maskTo p b H) := by
  have hbit : ∀ b k, (maskTo p b H).testBit k = bitP p b k := fun b k => by
    rw [maskTo_bit]
    by_cases hk : k < H
    · rw [decide_eq_true hk, Bool.true_and]
    · rw [decide_eq_false hk, Bool.false_and]
      have := fromV_le hH (b + k)
      exact (decide_eq_false (by omega)).symm
  refine ⟨fun b => ?_, fun b => Nat.eq_of_testBit_eq fun k => ?_, fun b k hk => ?_, thr_add p, fun b => Nat.eq_of_testBit_eq fun k => ?_⟩
  · unfold canM
    by_cases h0 : thr p b = 0
    · rw [if_pos h0]
      show (!(maskTo p b H).testBit 0) = true
      rw [hbit b 0]
      unfold bitP
      rw [from_eq hp (f := b) (m := b + 0) (by omega), h0]; rfl
    · rw [if_neg h0]
      show ((maskTo p b H).testBit 0 && (decide (thr p b ≤ H) && !(maskTo p b H).testBit (thr p b))) = true
      rw [hbit b 0, hbit b (thr p b)]
      unfold bitP
      have hle : thr p b ≤ H := by
        have h1 := (ok_in hp).1
        have := hH _ (mem_nth (l := p) (i := b % p.length) (Nat.mod_lt _ (by omega)))
        unfold thr; omega
      rw [from_eq hp (f := b) rfl, decide_eq_true hle]
      have hb0 : 0 < fromV p (b + 0) := by
        obtain ⟨i, hi, e, hf⟩ := from_ex hp (b + 0)
        rw [hf]
        refine Nat.pos_of_ne_zero fun hz => ?_
        rw [hz, Nat.add_zero, Nat.add_zero, Nat.mod_eq_of_lt hi] at e
        rw [e, thr_mod] at hz
        exact h0 hz
      rw [decide_eq_true hb0, decide_eq_false (by omega)]; rfl
  · show (maskTo p (b + 1) H).testBit k = _
    rw [nextM_bit, hbit, hbit]
    unfold bitP
    rw [show b + (k + 1) = b + 1 + k by omega]
    by_cases ht : thr p b = k + 1
    · rw [decide_eq_true ht, Bool.or_true, from_eq hp (f := b) (m := b + 1 + k) (by omega), ht]
      exact decide_eq_true (by omega)
    · rw [decide_eq_false ht, Bool.or_false]
      have hne : fromV p (b + 1 + k) ≠ k + 1 := by
        intro hf
        obtain ⟨i, hi, e, hf2⟩ := from_ex hp (b + 1 + k)
        rw [hf] at hf2
        rw [← hf2] at e
        have h1 := (ok_in hp).1
        have h0 : ∀ x ∈ p, 0 ≤ x := fun x hx => ((ok_in hp).2.2 x hx).1
        have hl : b % p.length < p.length := Nat.mod_lt _ (by omega)
        have e3 : i % p.length = b % p.length := by
          have e4 : (i + (k + 1)) % p.length = (b + (k + 1)) % p.length := by rw [e]; congr 1; omega
          have e5 : (((i + (k + 1) : Nat) : Int) - ((b + (k + 1) : Nat) : Int)) % (p.length : Int) = 0 := by
            refine Int.emod_eq_emod_iff_emod_sub_eq_zero.1 ?_
            rw [← Int.natCast_emod, ← Int.natCast_emod, e4]
          have e6 : ((i : Int)) % (p.length : Int) = (b : Int) % (p.length : Int) := by
            refine Int.emod_eq_emod_iff_emod_sub_eq_zero.2 ?_
            rw [show (i : Int) - (b : Int) = ((i + (k + 1) : Nat) : Int) - ((b + (k + 1) : Nat) : Int) by omega]; exact e5
          rw [← Int.natCast_emod, ← Int.natCast_emod] at e6
          exact Int.ofNat_inj.1 e6
        apply ht
        rw [← thr_mod p b, ← e3, thr_mod]; exact hf2.symm
      by_cases h2 : k < fromV p (b + 1 + k)
      · rw [decide_eq_true h2, decide_eq_true (by omega)]
      · rw [decide_eq_false h2, decide_eq_false (by omega)]
  · show (maskTo p b H).testBit k = false
    rw [maskTo_bit, decide_eq_false (by omega)]; rfl
  · show (maskTo p (b + p.length) H).testBit k = (maskTo p b H).testBit k
    rw [hbit, hbit]
    unfold bitP
    rw [fromV_mod p (m := b + p.length + k) (k := b + k) (by rw [show b + p.length + k = b + k + p.length by omega, Nat.add_mod_right])]
/-- The throws of a way are a pattern, and the way's masks are its states. -/
theorem wk_pat {H P : Nat} {T M : Nat → Nat} (h : Wk H P T M) {p : List Int} (hpl : p.length = P) (hP : 1 ≤ P ∧ P ≤ 12) (hH : H ≤ 15) (hT : ∀ b, thr p b = T b) (h0 : ∀ x ∈ p, 0 ≤ x) : okPat p = true ∧ (∀ x ∈ p, x ≤ (H : Int)) ∧ ∀ b, maskTo p b H = M b := by
  subst hpl
  have hle : ∀ x ∈ p, x ≤ (H : Int) := by
    intro x hx
    obtain ⟨i, hi, rfl⟩ := List.getElem_of_mem hx
    have h1 := h.le i
    rw [← hT i] at h1
    unfold thr at h1
    rw [Nat.mod_eq_of_lt hi, nth_eq p i hi] at h1
    have := h0 _ hx
    omega
  have hap : ∀ f g, f % p.length ≠ g % p.length → (f + T f) % p.length ≠ (g + T g) % p.length := by
    intro f g hne e
    have e1 : f + T f + ((g + T g) / p.length) * p.length = g + T g + ((f + T f) / p.length) * p.length := by
      have a := Nat.mod_add_div (f + T f) p.length
      have b := Nat.mod_add_div (g + T g) p.length
      rw [e] at a
      rw [Nat.mul_comm] at a b
      omega
    have h1 := h.perT' f ((g + T g) / p.length)
    have h2 := h.perT' g ((f + T f) / p.length)
    generalize (g + T g) / p.length = c at *
    generalize (f + T f) / p.length = d at *
    rcases Nat.lt_trichotomy (f + c * p.length) (g + d * p.length) with h3 | h3 | h3
    · exact h.apart h3 (by rw [h1, h2]; omega)
    · apply hne
      have := congrArg (· % p.length) h3
      simpa using this
    · exact h.apart h3 (by rw [h1, h2]; omega)
  have hok : okPat p = true := ok_of hP.1 hP.2 (fun x hx => ⟨h0 x hx, by have := hle x hx; omega⟩) (fun a b hab hb e => by
    rw [land_thr h0 (by omega), land_thr h0 hb, hT, hT] at e
    refine hap a b ?_ (Int.ofNat_inj.1 e)
    rw [Nat.mod_eq_of_lt (by omega), Nat.mod_eq_of_lt hb]; omega)
  refine ⟨hok, hle, fun b => Nat.eq_of_testBit_eq fun k => ?_⟩
  rw [maskTo_bit]
  have hbh : H ≤ b + H * p.length := by have := Nat.le_mul_of_pos_right H (show 0 < p.length by omega); omega
  have hM := h.perM' b H
  rw [← hM]
  have hfp : fromV p (b + k) = fromV p (b + H * p.length + k) := fromV_mod p (by rw [show b + H * p.length + k = b + k + H * p.length by omega, Nat.add_mul_mod_self_right])
  unfold bitP
  rw [hfp]
  generalize b + H * p.length = B at *
  cases hb : (M B).testBit k
  · by_cases hk : k < fromV p (B + k)
    · obtain ⟨i, hi, e, hf⟩ := from_ex hok (B + k)
      have hv := fromV_le hle (B + k)
      have hs : ∃ f, f + fromV p (B + k) = B + k ∧ T f = fromV p (B + k) := by
        refine ⟨B + k - fromV p (B + k), by omega, ?_⟩
        rw [hf] at hv hk ⊢
        rw [← hT, ← thr_mod]
        congr 1
        have e5 : (((i + thr p i : Nat) : Int) - ((B + k : Nat) : Int)) % (p.length : Int) = 0 := by
          refine Int.emod_eq_emod_iff_emod_sub_eq_zero.1 ?_
          rw [← Int.natCast_emod, ← Int.natCast_emod, e]
        have e6 : ((i : Int)) % (p.length : Int) = ((B + k - thr p i : Nat) : Int) % (p.length : Int) := by
          refine Int.emod_eq_emod_iff_emod_sub_eq_zero.2 ?_
          rw [show (i : Int) - ((B + k - thr p i : Nat) : Int) = ((i + thr p i : Nat) : Int) - ((B + k : Nat) : Int) by omega]; exact e5
        rw [← Int.natCast_emod, ← Int.natCast_emod, Nat.mod_eq_of_lt hi] at e6
        exact (Int.ofNat_inj.1 e6).symm
      obtain ⟨f, hf1, hf2⟩ := hs
      have hf3 : f < B := by omega
      have := h.set f (B - f) (by omega) (by rw [hf2]; omega)
      rw [show f + (B - f) = B by omega, show T f - (B - f) = k by omega, hb] at this
      exact absurd this (by decide)
    · rw [decide_eq_false hk, Bool.and_false]
  · have hkH : k < H := by
      refine Decidable.byContradiction fun hk => ?_
      rw [h.hi B k (by omega)] at hb
      exact absurd hb (by decide)
    obtain ⟨j, j1, j2, j3⟩ := h.src H k B (by omega) hbh hb
    rw [decide_eq_true hkH, Bool.true_and]
    have hfe := from_eq hok (f := B - j) (m := B + k) (by rw [hT, j3]; omega)
    rw [hfe, hT, j3]
    exact decide_eq_true (by omega)
end Go.Proofs.Ythdejhningghcaa
