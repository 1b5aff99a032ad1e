import Derived.Test.YthdejhningghcaaMg2
import Derived.Test.YthdejhningghcaaMg13
import Derived.Test.YthdejhningghcaaMg14
/- DiffL: measures of patterns, as functions of lists. -/
namespace Go.Proofs.Ythdejhningghcaa
open Go.ChangeShapes Go.WideShapes Go.ChangeAt Go.RowKit

def swingF (n : Int) : List Int → Int → Int
  | [], s => s
  | x :: l, s => swingF n l (s + (x - n) * (x - n))
theorem swingF_step (n : Int) (l : List Int) (s : Int) (k : Nat) (h : k < l.length) : swingF n (l.drop k) s = swingF n (l.drop (k + 1)) (s + (nth l k - n) * (nth l k - n)) := by
  rw [drop_nth l k h]; rfl
def workF : List Int → Int → Int
  | [], s => s
  | x :: l, s => workF l (if 2 < x then s + (x - 1) * (x - 1) else s)
theorem workF_step (l : List Int) (s : Int) (k : Nat) (h : k < l.length) : workF (l.drop k) s = workF (l.drop (k + 1)) (if 2 < nth l k then s + (nth l k - 1) * (nth l k - 1) else s) := by
  rw [drop_nth l k h]; rfl
def zeroF : List Int → Int → Int
  | [], s => s
  | x :: l, s => zeroF l (if x = 0 then s + 1 else s)
theorem zeroF_step (l : List Int) (s : Int) (k : Nat) (h : k < l.length) : zeroF (l.drop k) s = zeroF (l.drop (k + 1)) (if nth l k = 0 then s + 1 else s) := by
  rw [drop_nth l k h]; rfl
def minF : List Int → Int → Int
  | [], s => s
  | x :: l, s => minF l (mn s x)
theorem minF_step (l : List Int) (s : Int) (k : Nat) (h : k < l.length) : minF (l.drop k) s = minF (l.drop (k + 1)) (mn s (nth l k)) := by
  rw [drop_nth l k h]; rfl
def chgN (l : List Int) : Nat → Nat
  | 0 => 0
  | k + 1 => if atB l (k : Int) = atB l ((k : Int) - 1) then chgN l k else chgN l k + 1
theorem chgN_le (l : List Int) : ∀ k, chgN l k ≤ k
  | 0 => Nat.le_refl _
  | k + 1 => by have := chgN_le l k; unfold chgN; split <;> omega
def swingL (l : List Int) : Int := 1000 * swingF (propsL l) l 0 / (l.length : Int)
def workL (l : List Int) : Int := 1000 * workF l 0 / (l.length : Int)
def emptyL (l : List Int) : Int := 1000 * zeroF l 0 / (l.length : Int)
def chgL (l : List Int) : Int := 1000 * (chgN l l.length : Int) / (l.length : Int)
def spreadL (l : List Int) : Int := maxF l 0 - minF l (nth l 0)
def hardL (l : List Int) : Int := 1000 * propsL l * propsL l + 2 * workL l + swingL l + chgL l - 2 * emptyL l + 1000 * spreadL l
theorem sq_in (y a : Int) (h1 : -a ≤ y) (h2 : y ≤ a) : 0 ≤ y * y ∧ y * y ≤ a * a := by
  rcases Int.le_total 0 y with h | h
  · exact ⟨Int.mul_nonneg h h, Int.mul_le_mul h2 h2 h (by omega)⟩
  · have : y * y = (-y) * (-y) := by rw [Int.neg_mul_neg]
    rw [this]
    exact ⟨Int.mul_nonneg (by omega) (by omega), Int.mul_le_mul (by omega) (by omega) (by omega) (by omega)⟩
theorem swingF_in (n : Int) (hn0 : 0 ≤ n) (hn : n ≤ 180) : ∀ (l : List Int) (s : Int), (∀ x ∈ l, 0 ≤ x ∧ x ≤ 15) → s ≤ swingF n l s ∧ swingF n l s ≤ s + 32400 * l.length
  | [], s, _ => by simp [swingF]
  | x :: l, s, h => by
    have hx := h x (List.mem_cons_self ..)
    have h1 := sq_in (x - n) 180 (by omega) (by omega)
    have h2 := swingF_in n hn0 hn l (s + (x - n) * (x - n)) (fun y hy => h y (List.mem_cons_of_mem _ hy))
    simp only [swingF, List.length_cons, Int.natCast_add, Int.mul_add, Int.natCast_one, Int.mul_one]
    omega
theorem workF_in : ∀ (l : List Int) (s : Int), (∀ x ∈ l, 0 ≤ x ∧ x ≤ 15) → s ≤ workF l s ∧ workF l s ≤ s + 225 * l.length
  | [], s, _ => by simp [workF]
  | x :: l, s, h => by
    have hx := h x (List.mem_cons_self ..)
    have h1 := sq_in (x - 1) 15 (by omega) (by omega)
    have h2 := workF_in l (if 2 < x then s + (x - 1) * (x - 1) else s) (fun y hy => h y (List.mem_cons_of_mem _ hy))
    simp only [workF, List.length_cons, Int.natCast_add, Int.mul_add, Int.natCast_one, Int.mul_one]
    split at h2 <;> rename_i hc
    · rw [if_pos hc]; omega
    · rw [if_neg hc]; omega
theorem zeroF_in : ∀ (l : List Int) (s : Int), s ≤ zeroF l s ∧ zeroF l s ≤ s + l.length
  | [], s => by simp [zeroF]
  | x :: l, s => by
    have h2 := zeroF_in l (if x = 0 then s + 1 else s)
    simp only [zeroF, List.length_cons, Int.natCast_add, Int.natCast_one]
    split at h2 <;> rename_i hc
    · rw [if_pos hc]; omega
    · rw [if_neg hc]; omega
theorem minF_in : ∀ (l : List Int) (s : Int), (∀ x ∈ l, 0 ≤ x ∧ x ≤ 15) → 0 ≤ s → s ≤ 15 → 0 ≤ minF l s ∧ minF l s ≤ 15
  | [], s, _, h1, h2 => ⟨h1, h2⟩
  | x :: l, s, h, h1, h2 => by
    have hx := h x (List.mem_cons_self ..)
    exact minF_in l (mn s x) (fun y hy => h y (List.mem_cons_of_mem _ hy)) (by unfold mn; split <;> omega) (by unfold mn; split <;> omega)
theorem throws_mem {l : List Int} (h : throwsB l = true) : ∀ x ∈ l, 0 ≤ x ∧ x ≤ 15 := by
  obtain ⟨hx, h1, h12⟩ := throwsB_nth h
  intro x hxl
  obtain ⟨i, hi, rfl⟩ := List.getElem_of_mem hxl
  have := hx i hi
  rwa [nth_eq l i hi] at this
theorem ediv_in {t : Int} {n : Nat} {B : Int} (h0 : 0 ≤ t) (h1 : t ≤ B) : 0 ≤ t / (n : Int) ∧ t / (n : Int) ≤ B :=
  ⟨Int.ediv_nonneg h0 (by omega), Int.le_trans (Int.ediv_le_self _ h0) h1⟩
theorem div_factsB {t : Int} {k : Nat} (h0 : 0 ≤ t) (h1 : t ≤ 1000000000000) (hk : 1 ≤ k) : ((k : Int) == 0) = false ∧ t.tdiv (k : Int) = t / (k : Int) ∧ IntKind.i64.wrap (t / (k : Int)) = t / (k : Int) :=
  ⟨beq_eq_false_iff_ne.2 (by omega), Int.tdiv_eq_ediv_of_nonneg h0, IntWalk.i64_in _ (by have := Int.ediv_nonneg h0 (show (0 : Int) ≤ k by omega); have := Int.ediv_le_self (k : Int) h0; omega)⟩
/-- All measures of a pattern are small. -/
theorem measures_in {l : List Int} (h : throwsB l = true) : (0 ≤ propsL l ∧ propsL l ≤ 180) ∧ (0 ≤ swingL l ∧ swingL l ≤ 388800000) ∧ (0 ≤ workL l ∧ workL l ≤ 2700000) ∧ (0 ≤ emptyL l ∧ emptyL l ≤ 12000) ∧ (0 ≤ chgL l ∧ chgL l ≤ 12000) ∧ (-15 ≤ spreadL l ∧ spreadL l ≤ 15) := by
  have hm := throws_mem h
  obtain ⟨hx, h1, h12⟩ := throwsB_nth h
  have hp := propsL_in h
  have q1 := swingF_in (propsL l) hp.1 hp.2 l 0 hm
  have q2 := workF_in l 0 hm
  have q3 := zeroF_in l 0
  have q4 := chgN_le l l.length
  have q5 := maxF_in l 0 0 15 hm (by omega) (by omega)
  have q6 := minF_in l (nth l 0) hm (hx 0 (by omega)).1 (hx 0 (by omega)).2
  refine ⟨hp, ediv_in (by omega) (by omega), ediv_in (by omega) (by omega), ediv_in (by omega) (by omega), ediv_in (by omega) (by omega), ?_⟩
  unfold spreadL
  omega
theorem hardL_in {l : List Int} (h : throwsB l = true) : -1000000 ≤ hardL l ∧ hardL l ≤ 1000000000 := by
  obtain ⟨hp, h1, h2, h3, h4, h5⟩ := measures_in h
  have := sq_in (propsL l) 180 (by omega) (by omega)
  unfold hardL
  rw [Int.mul_assoc]
  omega
def gradeF (d : Int) : Nat → Int → Int → Int
  | 0, g, _ => g
  | f + 1, g, lim => if d ≤ lim then g else gradeF d f (g + 1) (lim + (10000 + 2000 * (g + 1)))
def gradeL (l : List Int) : Int := gradeF (hardL l) 9 1 10000
theorem gradeF_low (d : Int) (f : Nat) (g lim : Int) (h : d ≤ lim) : gradeF d f g lim = g := by
  cases f
  · rfl
  · unfold gradeF; rw [if_pos h]
theorem gradeF_high (d : Int) (f : Nat) (g lim : Int) (h : ¬ d ≤ lim) : gradeF d (f + 1) g lim = gradeF d f (g + 1) (lim + (10000 + 2000 * (g + 1))) := by
  rw [gradeF, if_neg h]
def hardA (l : List Int) : Int := if okPat l then hardL l else 0
def gradeA (l : List Int) : Int := if okPat l then gradeL l else 0
def okB (l : List Int) : Int := if okPat l then 0 else 1
theorem chgN_eq {l : List Int} {k : Nat} (h : atB l (k : Int) = atB l ((k : Int) - 1)) : chgN l (k + 1) = chgN l k := by rw [chgN, if_pos h]
theorem chgN_ne {l : List Int} {k : Nat} (h : ¬ atB l (k : Int) = atB l ((k : Int) - 1)) : chgN l (k + 1) = chgN l k + 1 := by rw [chgN, if_neg h]
end Go.Proofs.Ythdejhningghcaa
