import Derived.Test.YtoaegfoapkmdnaaMg7
import Derived.Test.YtoaegfoapkmdnaaMg4
import Derived.Test.YtoaegfoapkmdnaaMg1
/- CanP: canonical patterns of valid patterns, by the reference. -/
namespace Go.Proofs.Ytoaegfoapkmdnaa
open Go.ChangeShapes Go.WideShapes Go.ChangeAt Go.RowKit

theorem okPat_len {l : List Int} (h : okPat l = true) : 1 ≤ l.length ∧ l.length ≤ 12 := (throwsB_nth (okPat_throws h)).2
theorem canonicalPattern_c (v : Value) (l : List Int) (w : World) (hv : IntsAt w v l) (ho : okPat l = true) : Calls Try.prog 67 #[v] w (fun e w' => ∃ a n c, e = .returned (.tuple #[.slice a n c, .int .i64 0]) ∧ OwnInts w' w.heap.size (.slice a n c) (canL l) ∧ Below w.heap.size w w') := by
  have HV := Lib.hid hv
  have hq := l02Ok_c v l w hv
  rw [ho] at hq
  have hb := okPat_len ho
  have HQ := Lib.hid (fun W a => l03Canon_c v l W a hb.1 hb.2)
  clear hv ho hb
  go_enter Try.func67, Try.ntmps67
  go_wp2_with fail
  refine hq.mono ?_
  rintro e w1 ⟨rfl, hb1⟩
  clear hq
  go_wp2_with fail
  refine (HQ.out w1 (HV.out.below hb1)).mono ?_
  rintro e w2 ⟨a, n, c, rfl, ho, hb2⟩
  have HO := Lib.hid ho; clear ho
  go_wp2
  go_ret2
  exact ⟨_, _, _, rfl, own_mono HO.out hb1.size, bthen hb1 hb2⟩
end Go.Proofs.Ytoaegfoapkmdnaa

/- CanQ: whether a pattern is its own canonical form, by the package spec. -/
namespace Go.Proofs.Ytoaegfoapkmdnaa
open Go.ChangeShapes Go.WideShapes Go.ChangeAt Go.RowKit

theorem l21Canonical_c (v : Value) (l : List Int) (w : World) (hv : IntsAt w v l) (ho : okPat l = true) : Calls Try.prog 62 #[v] w (Gives (.bool (same2 eqI (canL l) l)) w) := by
  have HQ := Lib.hid (canonicalPattern_c v l w hv ho)
  have HV := Lib.hid hv
  clear hv ho
  go_enter Try.func62, Try.ntmps62
  go_wp2_with fail
  refine HQ.out.mono ?_
  rintro e w1 ⟨a, n, c, rfl, ho, hb1⟩
  have HO := Lib.hid (OwnInts.at ho); clear ho
  go_wp2_with fail
  refine (sSame_c _ _ _ _ _ HO.out (HV.out.below hb1)).mono ?_
  rintro e w2 ⟨rfl, hb2⟩
  go_wp2
  go_ret
  exact Gives.bool rfl (bthen hb1 hb2)
end Go.Proofs.Ytoaegfoapkmdnaa

/- Sums: sums and means of lists of numbers. -/
namespace Go.Proofs.Ytoaegfoapkmdnaa
open Go.ChangeShapes Go.WideShapes Go.ChangeAt Go.RowKit

theorem nth_map' {α β : Type} [Inhabited α] [Inhabited β] (f : α → β) (l : List α) (i : Nat) (h : i < l.length) : nth (l.map f) i = f (nth l i) := by
  rw [nth_eq _ _ (by simpa using h), nth_eq _ _ h, List.getElem_map]
def sumF : List Int → Int → Int
  | [], s => s
  | x :: l, s => sumF l (s + x)
theorem sumF_step (l : List Int) (s : Int) (k : Nat) (h : k < l.length) : sumF (l.drop k) s = sumF (l.drop (k + 1)) (s + nth l k) := by
  rw [drop_nth l k h]; rfl
theorem sumF_in : ∀ (l : List Int) (s B : Int), (∀ x ∈ l, 0 ≤ x ∧ x ≤ B) → 0 ≤ B → s ≤ sumF l s ∧ sumF l s ≤ s + B * l.length
  | [], s, B, _, _ => by simp [sumF]
  | x :: l, s, B, h, hB => by
    have h1 := h x (List.mem_cons_self ..)
    have h2 := sumF_in l (s + x) B (fun y hy => h y (List.mem_cons_of_mem _ hy)) hB
    simp only [sumF, List.length_cons, Int.natCast_add, Int.mul_add, Int.natCast_one, Int.mul_one]
    omega
def meanL (l : List Int) : Int := sumF l 0 / (l.length : Int)
def mn (a b : Int) : Int := if b < a then b else a
def mx (a b : Int) : Int := if a < b then b else a
def maxF : List Int → Int → Int
  | [], s => s
  | x :: l, s => maxF l (mx s x)
theorem maxF_step (l : List Int) (s : Int) (k : Nat) (h : k < l.length) : maxF (l.drop k) s = maxF (l.drop (k + 1)) (mx s (nth l k)) := by
  rw [drop_nth l k h]; rfl
theorem maxF_in : ∀ (l : List Int) (s lo hi : Int), (∀ x ∈ l, lo ≤ x ∧ x ≤ hi) → lo ≤ s → s ≤ hi → lo ≤ maxF l s ∧ maxF l s ≤ hi
  | [], s, lo, hi, _, h1, h2 => ⟨h1, h2⟩
  | x :: l, s, lo, hi, h, h1, h2 => by
    have hx := h x (List.mem_cons_self ..)
    exact maxF_in l (mx s x) lo hi (fun y hy => h y (List.mem_cons_of_mem _ hy)) (by unfold mx; split <;> omega) (by unfold mx; split <;> omega)
end Go.Proofs.Ytoaegfoapkmdnaa
