import Derived.Test.YthdejhningghcaaMg10
import Derived.Laws.Concat
import Derived.Laws.BytesArg
/- Marks: what the law's marks do to memory: rows of the call's own are overwritten, and nothing else is. -/
namespace Go.Proofs.Ythdejhningghcaa
open Go.ChangeShapes Go.WideShapes Go.ChangeAt Go.RowKit

/-- Of the blocks that were there only those from lo on and below hi have turned. -/
structure Turned (lo hi : Nat) (w w' : World) : Prop where
  os : w'.os = w.os
  tape : w'.tape = w.tape
  output : w'.output = w.output
  size : w.heap.size ≤ w'.heap.size
  block : ∀ k, k < w.heap.size → (k < lo ∨ hi ≤ k) → w'.heap[k]? = w.heap[k]?
section
variable {lo hi : Nat} {a b c w w' : World}
theorem Turned.of_below (h : Below w.heap.size w w') : Turned lo hi w w' := ⟨h.os, h.tape, h.output, h.size, fun k hk _ => h.block k hk⟩
theorem Turned.refl (w : World) : Turned lo hi w w := .of_below (Below.refl _ _)
theorem Turned.trans (h : Turned lo hi a b) (k : Turned lo hi b c) : Turned lo hi a c :=
  ⟨k.os.trans h.os, k.tape.trans h.tape, k.output.trans h.output, Nat.le_trans h.size k.size, fun i hi' ho => (k.block i (Nat.lt_of_lt_of_le hi' h.size) ho).trans (h.block i hi' ho)⟩
theorem Turned.then_below (h : Turned lo hi a b) (k : Below b.heap.size b c) : Turned lo hi a c := h.trans (.of_below k)
theorem Turned.set (h : Turned lo hi a w) {p : Addr} (h1 : lo ≤ p.block) (h2 : p.block < hi) (u : Value) : Turned lo hi a (w.setCell p u) :=
  ⟨h.os, h.tape, h.output, by simpa [World.setCell] using h.size, fun k hk ho => (Below.heap_setCell w p u k (by omega)).trans (h.block k hk ho)⟩
theorem Turned.below {B : Nat} (h : Turned lo hi w w') (hB : B ≤ lo) (hs : B ≤ w.heap.size) : Below B w w' := ⟨h.os, h.tape, h.output, h.size, fun k hk => h.block k (by omega) (.inl (by omega))⟩
theorem Turned.mono {lo' hi' : Nat} (h : Turned lo hi w w') (h1 : lo' ≤ lo) (h2 : hi ≤ hi') : Turned lo' hi' w w' := ⟨h.os, h.tape, h.output, h.size, fun k hk ho => h.block k hk (by omega)⟩
theorem own_turned {base : Nat} {e : TypeId} {size : Nat} {v : Value} {n : Nat} {xs : List Value} (h : w.ownsRow base e size v n xs) (ht : Turned lo hi w w') (hd : ∀ g, v.ownBlock = some g → g < lo ∨ hi ≤ g) : w'.ownsRow base e size v n xs := by
  refine ⟨h.1, ?_⟩
  rcases h.2 with hn | ⟨g, cap, cur, rfl, hb, hgg, rest⟩
  · exact .inl hn
  · refine .inr ⟨g, cap, cur, rfl, hb, ?_, rest⟩
    rw [ht.block g (Array.getElem?_eq_some_iff.1 hgg).1 (hd g rfl)]
    exact hgg
end

theorem own_rebase {w : World} {b1 b2 : Nat} {e : TypeId} {size : Nat} {v : Value} {n : Nat} {xs : List Value} (h : w.ownsRow b1 e size v n xs) (hl : ∀ g, v.ownBlock = some g → b2 ≤ g) : w.ownsRow b2 e size v n xs := by
  obtain ⟨h1, h2⟩ := h
  refine ⟨h1, ?_⟩
  rcases h2 with h2 | ⟨g, cap, cur, rfl, hb, r⟩
  · exact .inl h2
  · exact .inr ⟨g, cap, cur, rfl, hl g rfl, r⟩
/-- A row of the call's own, made between two points of time. -/
def RowIn (e : TypeId) (size : Nat) (w : World) (base hi : Nat) (v : Value) (n : Nat) (xs : List Value) : Prop := w.ownsRow base e size v n xs ∧ ∀ g, v.ownBlock = some g → g < hi
section
variable {e : TypeId} {size base hi n : Nat} {w w' : World} {v : Value} {xs : List Value}
theorem RowIn.of (h : w.ownsRow base e size v n xs) : RowIn e size w base w.heap.size v n xs := ⟨h, fun g hg => (h.lt g hg).2⟩
theorem RowIn.below (h : RowIn e size w base hi v n xs) (hb : Below w.heap.size w w') : RowIn e size w' base hi v n xs := ⟨own_below h.1 hb, h.2⟩
theorem RowIn.turned {lo' hi' : Nat} (h : RowIn e size w base hi v n xs) (ht : Turned lo' hi' w w') (hd : hi ≤ lo' ∨ hi' ≤ base) : RowIn e size w' base hi v n xs :=
  ⟨own_turned h.1 ht (fun g hg => by have := (h.1.lt g hg).1; have := h.2 g hg; omega), h.2⟩
end

theorem mark_then {B lo hi : Nat} {w w1 w2 : World} (h : Below B w w1) (k : Turned lo hi w1 w2) (hB : B ≤ lo) (hs : B ≤ w1.heap.size) : Below B w w2 := h.trans (k.below hB hs)
theorem fillE {α : Type} [Inhabited α] (enc : α → Value) {l : List α} {k : Nat} {xs : List Value} (h : ∀ i, i < k → xs[i]? = some (enc (nth l i))) (hlen : k < xs.length) :
    ∀ i, i < k + 1 → (xs.set k (enc (nth l k)))[i]? = some (enc (nth l i)) := by
  intro i hi
  by_cases hik : i < k
  · rw [List.getElem?_set_ne (by omega)]; exact h i hik
  · obtain rfl : i = k := by omega
    rw [List.getElem?_set_self hlen]
theorem row_extE {α : Type} [Inhabited α] (enc : α → Value) (l : List α) (xs : List Value) (hl : xs.length = l.length) (h : ∀ i, i < l.length → xs[i]? = some (enc (nth l i))) : xs = l.map enc := by
  apply List.ext_getElem?
  intro i
  by_cases hi : i < l.length
  · rw [h i hi, List.getElem?_map, nth_get? l i hi]; rfl
  · rw [List.getElem?_eq_none (by omega), List.getElem?_eq_none (by simp; omega)]
theorem nth_range_map {α : Type} [Inhabited α] (f : Nat → α) (n i : Nat) (h : i < n) : nth ((List.range n).map f) i = f i := by
  rw [nth_eq _ _ (by simpa using h)]; simp

theorem flat_set {α : Type} [Inhabited α] (enc : α → List Value) (k : Nat) (hk : ∀ x, (enc x).length = k) : ∀ (l : List α) (i : Nat), i < l.length → ∀ (j : Nat) (u : Value) (y : α), j < k → enc y = (enc (nth l i)).set j u → (l.flatMap enc).set (i * k + j) u = (l.set i y).flatMap enc
  | [], i, hi, _, _, _, _, _ => absurd hi (Nat.not_lt_zero _)
  | x :: l, 0, _, j, u, y, hj, he => by
    rw [nth_cons_zero] at he
    rw [List.flatMap_cons, List.set_cons_zero, List.flatMap_cons, he, Nat.zero_mul, Nat.zero_add, List.set_append_left _ _ (by rw [hk]; exact hj)]
  | x :: l, i + 1, hi, j, u, y, hj, he => by
    rw [nth_cons_succ] at he
    rw [List.flatMap_cons, List.set_cons_succ, List.flatMap_cons, ← flat_set enc k hk l i (by simpa using hi) j u y hj he, List.set_append_right _ _ (by rw [hk, Nat.succ_mul]; omega), hk]
    congr 2
    rw [Nat.succ_mul]; omega
theorem nth_set {α : Type} [Inhabited α] (l : List α) (i j : Nat) (y : α) (hi : i < l.length) : nth (l.set i y) j = if j = i then y else nth l j := by
  unfold nth
  by_cases h : j = i
  · subst h; simp [List.getD, hi]
  · rw [if_neg h]; simp [List.getD, List.getElem?_set_ne (Ne.symm h)]

/-! ### The text of a mark -/
set_option linter.unusedVariables false in
def digF (k : Nat) (out : ByteArray) : ByteArray := if h : k = 0 then out else digF (k / 10) (strOfNums [48 + (k : Int) % 10] ++ out)
  termination_by k
  decreasing_by exact Nat.div_lt_self (Nat.pos_of_ne_zero h) (by omega)
theorem digF_zero (out : ByteArray) : digF 0 out = out := by unfold digF; rfl
theorem digF_step (k : Nat) (out : ByteArray) (h : k ≠ 0) : digF k out = digF (k / 10) (strOfNums [48 + (k : Int) % 10] ++ out) := by rw [digF, dif_neg h]
theorem digF_size (k : Nat) (out : ByteArray) : (digF k out).size ≤ k + out.size := by
  induction k using Nat.strongRecOn generalizing out with
  | ind k ih =>
    by_cases h : k = 0
    · subst h; rw [digF_zero]; omega
    · rw [digF_step k out h]
      have := ih (k / 10) (Nat.div_lt_self (by omega) (by omega)) (strOfNums [48 + (k : Int) % 10] ++ out)
      rw [ByteArray.size_append, strOfNums_size] at this
      have h2 : k / 10 < k := Nat.div_lt_self (by omega) (by omega)
      simp at this
      omega
def markB (k : Nat) : ByteArray := ByteArray.mk #[109] ++ digF k ByteArray.empty
end Go.Proofs.Ythdejhningghcaa
