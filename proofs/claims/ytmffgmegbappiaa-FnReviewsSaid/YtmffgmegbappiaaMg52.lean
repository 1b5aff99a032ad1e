import Derived.Test.YtmffgmegbappiaaMg51
import Derived.Test.YtmffgmegbappiaaMg26
/- MarkSS: slices of lists of numbers that the law marks, their marks held; whether two of them are the same. -/
namespace Go.Proofs.Ytmffgmegbappiaa
open Go.ChangeShapes Go.WideShapes Go.ChangeAt Go.RowKit

theorem intss_cells {w : World} {a : Option Addr} {l : List (List Int)} (h : NestC intssS w a l) (k : Nat) (hk : k < l.length) :
    ∃ b o pa pn pc, a = some ⟨b, o, none⟩ ∧ b < w.heap.size ∧ IntsAt w (.slice pa pn pc) (nth l k) ∧ w.cell? ⟨b, o + k, none⟩ = some (.slice pa pn pc) := by
  obtain ⟨b, o, pa, pn, pc, ha, hb, hok, hp, hc⟩ := h k hk
  have h0 := hc 0 (by decide)
  refine ⟨b, o, pa, pn, pc, ha, hb, hp, ?_⟩
  rw [show o + k * intssS.k + 0 = o + k by simp [intssS]] at h0
  exact h0
theorem eqIs_iff (a b : List Int) : same2 eqI a b = true ↔ a = b := same2_iff eqI eqI_iff a b
def intssM : List (List Int) → Nat
  | [] => 0
  | x :: l => x.length + intssM l
def intssMarks : List (List Int) → Nat → List (List Int)
  | [], _ => []
  | x :: l, k => intMarks x.length k :: intssMarks l (k + x.length)
theorem intssMarks_append : ∀ (l m : List (List Int)) (k : Nat), intssMarks (l ++ m) k = intssMarks l k ++ intssMarks m (k + intssM l)
  | [], m, k => by simp [intssMarks, intssM]
  | x :: l, m, k => by simp [intssMarks, intssM, intssMarks_append l m, Nat.add_assoc]
theorem intssM_append : ∀ (l m : List (List Int)), intssM (l ++ m) = intssM l + intssM m
  | [], m => by simp [intssM]
  | x :: l, m => by simp [intssM, intssM_append l m, Nat.add_assoc]
theorem intssMarks_len : ∀ (l : List (List Int)) (k : Nat), (intssMarks l k).length = l.length
  | [], _ => rfl
  | x :: l, k => by simp [intssMarks, intssMarks_len l]
def InIntss (w : World) (lo hi : Nat) (v : Value) (l : List (List Int)) : Prop := InNest intssS 29 w lo hi v l
section
variable {w w' : World} {lo hi : Nat} {v : Value} {l : List (List Int)}
theorem InIntss.of (h : OwnIntss w lo v l) : InIntss w lo w.heap.size v l := InNest.of h
theorem InIntss.below (h : InIntss w lo hi v l) (hb : Below w.heap.size w w') : InIntss w' lo hi v l := InNest.below h hb
theorem InIntss.turned {lo' hi' : Nat} (h : InIntss w lo hi v l) (ht : Turned lo' hi' w w') (hd : hi ≤ lo' ∨ hi' ≤ lo) : InIntss w' lo hi v l := InNest.turned h ht hd
theorem InIntss.at (h : InIntss w lo hi v l) : IntssAt w v l := InNest.at h
end
theorem intssMarks_step (l : List (List Int)) (k j : Nat) (h : j < l.length) : intssMarks (l.take (j + 1)) k = intssMarks (l.take j) k ++ [intMarks (nth l j).length (k + intssM (l.take j))] := by
  rw [take_nth l j h, intssMarks_append]; rfl
theorem intssM_step (l : List (List Int)) (j : Nat) (h : j < l.length) : intssM (l.take (j + 1)) = intssM (l.take j) + (nth l j).length := by
  rw [take_nth l j h, intssM_append]; simp [intssM]
theorem intssM_le : ∀ (l : List (List Int)), (∀ x ∈ l, x.length ≤ 1048576) → intssM l ≤ l.length * 1048576
  | [], _ => by simp [intssM]
  | x :: l, h => by
    have h1 := h x (List.mem_cons_self ..)
    have h2 := intssM_le l (fun y hy => h y (List.mem_cons_of_mem _ hy))
    simp only [intssM, List.length_cons, Nat.succ_mul]
    omega
theorem intssMarks_nth (l : List (List Int)) (k j : Nat) (h : j < l.length) : nth (intssMarks l k) j = intMarks (nth l j).length (k + intssM (l.take j)) := by
  have h1 : intssMarks l k = intssMarks (l.take j) k ++ intssMarks (l.drop j) (k + intssM (l.take j)) := by
    rw [← intssMarks_append, List.take_append_drop]
  rw [h1, drop_nth l j h]
  have hl : (intssMarks (l.take j) k).length = j := by rw [intssMarks_len, List.length_take]; omega
  unfold nth
  rw [List.getD, List.getElem?_append_right (by omega), hl, Nat.sub_self]
  rfl
end Go.Proofs.Ytmffgmegbappiaa
