import Derived.Test.YtoaegfoapkmdnaaMg2
import Derived.Test.YtoaegfoapkmdnaaMg14
import Derived.Test.YtoaegfoapkmdnaaMg3
import Derived.Laws.Concat
import Derived.Laws.BytesArg
/- SearchG: searches for the patterns of a query: what stands at a leaf of the search is a pattern, and its sum is as it should be (no program). -/
namespace Go.Proofs.Ytoaegfoapkmdnaa
open Go.RowKit

theorem nodup_le : ∀ (n : Nat) (l : List Nat), l.Nodup → (∀ x ∈ l, x < n) → l.length ≤ n
  | 0, l, _, hb => by
    cases l with
    | nil => simp
    | cons x l => exact absurd (hb x (List.mem_cons_self ..)) (Nat.not_lt_zero _)
  | n + 1, l, hn, hb => by
    by_cases hm : n ∈ l
    · have h1 := nodup_le n (l.erase n) (hn.erase n) (fun x hx => by
        have h2 := (hn.mem_erase_iff).1 hx
        have := hb x h2.2
        have := h2.1
        omega)
      rw [List.length_erase_of_mem hm] at h1
      omega
    · have h1 := nodup_le n l hn (fun x hx => by
        have := hb x hx
        have : x ≠ n := fun e => hm (e ▸ hx)
        omega)
      omega
theorem perm_sum {l m : List Nat} (h : l.Perm m) : l.sum = m.sum := by
  induction h with
  | nil => rfl
  | cons x _ ih => simp [ih]
  | swap x y l => simp; omega
  | trans _ _ h1 h2 => exact h1.trans h2
theorem nodup_sum : ∀ (n : Nat) (l : List Nat), l.Nodup → (∀ x ∈ l, x < n) → l.length = n → l.sum = (List.range n).sum
  | 0, l, _, _, hl => by rw [List.eq_nil_of_length_eq_zero hl]; rfl
  | n + 1, l, hn, hb, hl => by
    have hm : n ∈ l := by
      refine Decidable.byContradiction fun hm => ?_
      have := nodup_le n l hn (fun x hx => by
        have := hb x hx
        have : x ≠ n := fun e => hm (e ▸ hx)
        omega)
      omega
    have h1 := nodup_sum n (l.erase n) (hn.erase n) (fun x hx => by
      have h2 := (hn.mem_erase_iff).1 hx
      have := hb x h2.2
      have := h2.1
      omega) (by rw [List.length_erase_of_mem hm]; omega)
    have h2 := perm_sum (List.perm_cons_erase hm)
    rw [h2, List.sum_cons, h1, List.range_succ, List.sum_append]
    simp; omega

def landN (n : Nat) (pre : List Int) : List Nat := (List.range pre.length).map fun i => (i + (nth pre i).toNat) % n
theorem nth_snoc_lt {α : Type} [Inhabited α] (l : List α) (x : α) (i : Nat) (h : i < l.length) : nth (l ++ [x]) i = nth l i := by
  unfold nth; simp [List.getD, List.getElem?_append_left h]
theorem nth_snoc_eq {α : Type} [Inhabited α] (l : List α) (x : α) : nth (l ++ [x]) l.length = x := by
  unfold nth; simp [List.getD]
theorem landN_snoc (n : Nat) (pre : List Int) (t : Nat) : landN n (pre ++ [(t : Int)]) = landN n pre ++ [(pre.length + t) % n] := by
  unfold landN
  rw [List.length_append, List.length_singleton, List.range_succ, List.map_append]
  congr 1
  · apply List.map_congr_left
    intro i hi
    rw [nth_snoc_lt _ _ _ (List.mem_range.1 hi)]
  · simp [nth_snoc_eq]
def frB (q : Query) (n : Nat) (pre : List Int) (t : Nat) : Bool := !(decide ((pre.length + t) % n ∈ landN n pre)) && !(hasB q.avoid (t : Int))
structure Good (q : Query) (n : Nat) (pre : List Int) (left : Int) : Prop where
  throws : ∀ x ∈ pre, 0 ≤ x ∧ x ≤ q.high
  apart : (landN n pre).Nodup
  left : left = q.props * (n : Int) - sumF pre 0
theorem sumF_add : ∀ (l : List Int) (s : Int), sumF l s = s + sumF l 0
  | [], s => by simp [sumF]
  | x :: l, s => by
    simp only [sumF]
    rw [sumF_add l (s + x), sumF_add l (0 + x)]; omega
theorem sumF_snoc (l : List Int) (x : Int) : sumF (l ++ [x]) 0 = sumF l 0 + x := by
  have : ∀ (l : List Int) (s : Int), sumF (l ++ [x]) s = sumF l s + x := by
    intro l
    induction l with
    | nil => intro s; rfl
    | cons y l ih => intro s; simp only [List.cons_append, sumF]; exact ih _
  exact this l 0
theorem good_start (q : Query) (n : Nat) : Good q n [] (q.props * (n : Int)) := ⟨fun x hx => absurd hx List.not_mem_nil, by simp [landN], by simp [sumF]⟩
theorem good_step {q : Query} {n : Nat} (H : Nat) (hH : (H : Int) = q.high) (pre : List Int) (left : Int) (t : Nat) (h : Good q n pre left) (_ : pre.length < n) (ht : t ≤ H) (hf : frB q n pre t = true) : Good q n (pre ++ [(t : Int)]) (left - t) := by
  refine ⟨fun x hx => ?_, ?_, ?_⟩
  · rcases List.mem_append.1 hx with h1 | h1
    · exact h.throws x h1
    · rw [List.mem_singleton.1 h1]; omega
  · rw [landN_snoc]
    unfold frB at hf
    simp only [Bool.and_eq_true, Bool.not_eq_true', decide_eq_false_iff_not] at hf
    rw [List.nodup_append]
    refine ⟨h.apart, by simp, fun a ha b hb e => ?_⟩
    rw [List.mem_singleton.1 hb] at e
    exact hf.1 (e ▸ ha)
  · rw [sumF_snoc, h.left]; omega
theorem sum_toNat : ∀ (l : List Int), (∀ x ∈ l, 0 ≤ x) → sumF l 0 = ((l.map Int.toNat).sum : Int)
  | [], _ => rfl
  | x :: l, h => by
    have h1 := sum_toNat l (fun y hy => h y (List.mem_cons_of_mem _ hy))
    have h2 := h x (List.mem_cons_self ..)
    simp only [sumF, List.map_cons, List.sum_cons]
    rw [sumF_add, h1]; omega
theorem sum_mod (n : Nat) : ∀ l : List Nat, (l.map (· % n)).sum % n = l.sum % n
  | [] => rfl
  | x :: l => by
    simp only [List.map_cons, List.sum_cons]
    rw [Nat.add_mod, sum_mod n l, Nat.mod_mod, ← Nat.add_mod]
theorem sum_shift : ∀ (l : List Nat) (k : Nat), ((List.range l.length).map fun i => (i + k) + l.getD i 0).sum = ((List.range l.length).map fun i => i + k).sum + l.sum
  | [], _ => rfl
  | x :: l, k => by
    rw [List.length_cons, List.range_succ_eq_map, List.map_cons, List.map_cons, List.map_map, List.map_map, List.sum_cons, List.sum_cons, List.sum_cons]
    have h := sum_shift l (k + 1)
    have e1 : ((List.range l.length).map ((fun i => (i + k) + (x :: l).getD i 0) ∘ Nat.succ)) = ((List.range l.length).map fun i => (i + (k + 1)) + l.getD i 0) := by
      apply List.map_congr_left; intro i _; simp; omega
    have e2 : ((List.range l.length).map ((fun i => i + k) ∘ Nat.succ)) = ((List.range l.length).map fun i => i + (k + 1)) := by
      apply List.map_congr_left; intro i _; simp; omega
    rw [e1, e2, h]; simp; omega
theorem leaf_div {q : Query} {n : Nat} {pre : List Int} {left : Int} (h : Good q n pre left) (hl : pre.length = n) (hn : 1 ≤ n) : (n : Int) * (sumF pre 0 / (n : Int)) = sumF pre 0 := by
  have h1 : (landN n pre).sum = (List.range n).sum := nodup_sum n _ h.apart (fun x hx => by
    obtain ⟨i, _, rfl⟩ := List.mem_map.1 hx
    exact Nat.mod_lt _ hn) (by simp [landN, hl])
  have h2 : landN n pre = (((List.range (pre.map Int.toNat).length).map fun i => (i + 0) + (pre.map Int.toNat).getD i 0)).map (· % n) := by
    unfold landN
    rw [List.map_map, List.length_map]
    apply List.map_congr_left
    intro i hi
    have hi' := List.mem_range.1 hi
    simp only [Function.comp]
    congr 2
    rw [nth_eq _ _ hi']
    simp [List.getD, hi']
  have h3 := sum_shift (pre.map Int.toNat) 0
  have h4 : ((List.range (pre.map Int.toNat).length).map fun i => i + 0) = List.range n := by
    rw [List.length_map, hl]; simp
  rw [h4] at h3
  have h5 := sum_mod n ((List.range (pre.map Int.toNat).length).map fun i => (i + 0) + (pre.map Int.toNat).getD i 0)
  rw [← h2, h1, h3] at h5
  have h6 : (pre.map Int.toNat).sum % n = 0 := by
    have e : ((List.range n).sum + (pre.map Int.toNat).sum) % n = (List.range n).sum % n := h5.symm
    have := Nat.sub_mod_eq_zero_of_mod_eq e
    rwa [Nat.add_sub_cancel_left] at this
  have h7 := sum_toNat pre (fun x hx => (h.throws x hx).1)
  rw [h7]
  have h8 := Nat.div_add_mod (pre.map Int.toNat).sum n
  rw [h6] at h8
  have : ((n * ((pre.map Int.toNat).sum / n) : Nat) : Int) = ((pre.map Int.toNat).sum : Int) := by rw [Nat.add_zero] at h8; rw [h8]
  rw [← this]
  push_cast
  rw [Int.mul_ediv_cancel_left _ (by omega)]
theorem good_leaf {q : Query} {n : Nat} (hn : 1 ≤ n) (pre : List Int) (left : Int) (h : Good q n pre left) (hl : pre.length = n) (h0 : left ≠ 0) : matchB q pre = false := by
  cases hm : matchB q pre
  · rfl
  · exfalso
    unfold matchB headB at hm
    simp only [Bool.and_eq_true, beq_iff_eq, decide_eq_true_eq] at hm
    have h1 : propsL pre = q.props := hm.1.2.1
    unfold propsL meanL at h1
    rw [hl] at h1
    have h2 := leaf_div h hl hn
    rw [h1] at h2
    have h3 := h.left
    rw [Int.mul_comm] at h2
    omega
theorem good_okPat {q : Query} {n : Nat} {pre : List Int} {left : Int} (h : Good q n pre left) (hl : pre.length = n) (hn : 1 ≤ n) (hn12 : n ≤ 12) (hh : q.high ≤ 15) : okPat pre = true := by
  unfold okPat throwsB
  have h1 : throwsF pre = true := by
    have : ∀ l : List Int, (∀ x ∈ l, 0 ≤ x ∧ x ≤ q.high) → throwsF l = true := by
      intro l
      induction l with
      | nil => intro _; rfl
      | cons x l ih =>
        intro hx
        have := hx x (List.mem_cons_self ..)
        simp only [throwsF, ih (fun y hy => hx y (List.mem_cons_of_mem _ hy)), Bool.and_true, inB, Bool.and_eq_true, decide_eq_true_eq]
        omega
    exact this pre h.throws
  have h2 : inB (pre.length : Int) 1 12 = true := by unfold inB; rw [hl]; simp; omega
  have h3 : clashFree pre = true := by
    rw [clashFree_iff]
    intro k hk
    rw [rowFree_iff]
    intro i hi e
    have hp := h.apart
    have hli : i < (landN n pre).length := by simp [landN]; omega
    have hlk : k < (landN n pre).length := by simp [landN]; omega
    have hx : (landN n pre)[i] ≠ (landN n pre)[k] := (List.pairwise_iff_getElem.1 hp) i k hli hlk hi
    apply hx
    have g : ∀ (j : Nat) (hj : j < (landN n pre).length), (landN n pre)[j] = (j + (nth pre j).toNat) % n := fun j hj => by simp [landN]
    rw [g i hli, g k hlk]
    unfold land at e
    rw [hl] at e
    have cv : ∀ (j : Nat) (x : Int), 0 ≤ x → ((j : Int) + x) % (n : Int) = (((j + x.toNat) % n : Nat) : Int) := fun j x hx => by
      rw [Int.natCast_emod, Int.natCast_add, Int.toNat_of_nonneg hx]
    have p1 := (h.throws (nth pre i) (by rw [nth_eq _ _ (by omega)]; exact List.getElem_mem _)).1
    have p2 := (h.throws (nth pre k) (by rw [nth_eq _ _ hk]; exact List.getElem_mem _)).1
    rw [cv i _ p1, cv k _ p2] at e
    exact Int.ofNat_inj.1 e
  rw [h1, h2, h3]; rfl
end Go.Proofs.Ytoaegfoapkmdnaa

/- Marks: what the law's marks do to memory: rows of the call's own are overwritten, and nothing else is. -/
namespace Go.Proofs.Ytoaegfoapkmdnaa
open Go.ChangeShapes Go.WideShapes Go.ChangeAt Go.RowKit

/-- Of the blocks that were there only those from lo on and below hi have turned. -/
structure Turned (lo hi : Nat) (w w' : World) : Prop where
  os : w'.os = w.os
  tape : w'.tape = w.tape
  output : w'.output = w.output
  size : w.heap.size ≤ w'.heap.size
  block : ∀ k, k < w.heap.size → (k < lo ∨ hi ≤ k) → w'.heap[k]? = w.heap[k]?
section
variable {lo hi : Nat} {a b c w w' : World}
theorem Turned.of_below (h : Below w.heap.size w w') : Turned lo hi w w' := ⟨h.os, h.tape, h.output, h.size, fun k hk _ => h.block k hk⟩
theorem Turned.refl (w : World) : Turned lo hi w w := .of_below (Below.refl _ _)
theorem Turned.trans (h : Turned lo hi a b) (k : Turned lo hi b c) : Turned lo hi a c :=
  ⟨k.os.trans h.os, k.tape.trans h.tape, k.output.trans h.output, Nat.le_trans h.size k.size, fun i hi' ho => (k.block i (Nat.lt_of_lt_of_le hi' h.size) ho).trans (h.block i hi' ho)⟩
theorem Turned.then_below (h : Turned lo hi a b) (k : Below b.heap.size b c) : Turned lo hi a c := h.trans (.of_below k)
theorem Turned.set (h : Turned lo hi a w) {p : Addr} (h1 : lo ≤ p.block) (h2 : p.block < hi) (u : Value) : Turned lo hi a (w.setCell p u) :=
  ⟨h.os, h.tape, h.output, by simpa [World.setCell] using h.size, fun k hk ho => (Below.heap_setCell w p u k (by omega)).trans (h.block k hk ho)⟩
theorem Turned.below {B : Nat} (h : Turned lo hi w w') (hB : B ≤ lo) (hs : B ≤ w.heap.size) : Below B w w' := ⟨h.os, h.tape, h.output, h.size, fun k hk => h.block k (by omega) (.inl (by omega))⟩
theorem Turned.mono {lo' hi' : Nat} (h : Turned lo hi w w') (h1 : lo' ≤ lo) (h2 : hi ≤ hi') : Turned lo' hi' w w' := ⟨h.os, h.tape, h.output, h.size, fun k hk ho => h.block k hk (by omega)⟩
theorem own_turned {base : Nat} {e : TypeId} {size : Nat} {v : Value} {n : Nat} {xs : List Value} (h : w.ownsRow base e size v n xs) (ht : Turned lo hi w w') (hd : ∀ g, v.ownBlock = some g → g < lo ∨ hi ≤ g) : w'.ownsRow base e size v n xs := by
  refine ⟨h.1, ?_⟩
  rcases h.2 with hn | ⟨g, cap, cur, rfl, hb, hgg, rest⟩
  · exact .inl hn
  · refine .inr ⟨g, cap, cur, rfl, hb, ?_, rest⟩
    rw [ht.block g (Array.getElem?_eq_some_iff.1 hgg).1 (hd g rfl)]
    exact hgg
end

theorem own_rebase {w : World} {b1 b2 : Nat} {e : TypeId} {size : Nat} {v : Value} {n : Nat} {xs : List Value} (h : w.ownsRow b1 e size v n xs) (hl : ∀ g, v.ownBlock = some g → b2 ≤ g) : w.ownsRow b2 e size v n xs := by
  obtain ⟨h1, h2⟩ := h
  refine ⟨h1, ?_⟩
  rcases h2 with h2 | ⟨g, cap, cur, rfl, hb, r⟩
  · exact .inl h2
  · exact .inr ⟨g, cap, cur, rfl, hl g rfl, r⟩
/-- A row of the call's own, made between two points of time. -/
def RowIn (e : TypeId) (size : Nat) (w : World) (base hi : Nat) (v : Value) (n : Nat) (xs : List Value) : Prop := w.ownsRow base e size v n xs ∧ ∀ g, v.ownBlock = some g → g < hi
section
variable {e : TypeId} {size base hi n : Nat} {w w' : World} {v : Value} {xs : List Value}
theorem RowIn.of (h : w.ownsRow base e size v n xs) : RowIn e size w base w.heap.size v n xs := ⟨h, fun g hg => (h.lt g hg).2⟩
theorem RowIn.below (h : RowIn e size w base hi v n xs) (hb : Below w.heap.size w w') : RowIn e size w' base hi v n xs := ⟨own_below h.1 hb, h.2⟩
theorem RowIn.turned {lo' hi' : Nat} (h : RowIn e size w base hi v n xs) (ht : Turned lo' hi' w w') (hd : hi ≤ lo' ∨ hi' ≤ base) : RowIn e size w' base hi v n xs :=
  ⟨own_turned h.1 ht (fun g hg => by have := (h.1.lt g hg).1; have := h.2 g hg; omega), h.2⟩
end

theorem mark_then {B lo hi : Nat} {w w1 w2 : World} (h : Below B w w1) (k : Turned lo hi w1 w2) (hB : B ≤ lo) (hs : B ≤ w1.heap.size) : Below B w w2 := h.trans (k.below hB hs)
theorem fillE {α : Type} [Inhabited α] (enc : α → Value) {l : List α} {k : Nat} {xs : List Value} (h : ∀ i, i < k → xs[i]? = some (enc (nth l i))) (hlen : k < xs.length) :
    ∀ i, i < k + 1 → (xs.set k (enc (nth l k)))[i]? = some (enc (nth l i)) := by
  intro i hi
  by_cases hik : i < k
  · rw [List.getElem?_set_ne (by omega)]; exact h i hik
  · obtain rfl : i = k := by omega
    rw [List.getElem?_set_self hlen]
theorem row_extE {α : Type} [Inhabited α] (enc : α → Value) (l : List α) (xs : List Value) (hl : xs.length = l.length) (h : ∀ i, i < l.length → xs[i]? = some (enc (nth l i))) : xs = l.map enc := by
  apply List.ext_getElem?
  intro i
  by_cases hi : i < l.length
  · rw [h i hi, List.getElem?_map, nth_get? l i hi]; rfl
  · rw [List.getElem?_eq_none (by omega), List.getElem?_eq_none (by simp; omega)]
theorem nth_range_map {α : Type} [Inhabited α] (f : Nat → α) (n i : Nat) (h : i < n) : nth ((List.range n).map f) i = f i := by
  rw [nth_eq _ _ (by simpa using h)]; simp

theorem flat_set {α : Type} [Inhabited α] (enc : α → List Value) (k : Nat) (hk : ∀ x, (enc x).length = k) : ∀ (l : List α) (i : Nat), i < l.length → ∀ (j : Nat) (u : Value) (y : α), j < k → enc y = (enc (nth l i)).set j u → (l.flatMap enc).set (i * k + j) u = (l.set i y).flatMap enc
  | [], i, hi, _, _, _, _, _ => absurd hi (Nat.not_lt_zero _)
  | x :: l, 0, _, j, u, y, hj, he => by
    rw [nth_cons_zero] at he
    rw [List.flatMap_cons, List.set_cons_zero, List.flatMap_cons, he, Nat.zero_mul, Nat.zero_add, List.set_append_left _ _ (by rw [hk]; exact hj)]
  | x :: l, i + 1, hi, j, u, y, hj, he => by
    rw [nth_cons_succ] at he
    rw [List.flatMap_cons, List.set_cons_succ, List.flatMap_cons, ← flat_set enc k hk l i (by simpa using hi) j u y hj he, List.set_append_right _ _ (by rw [hk, Nat.succ_mul]; omega), hk]
    congr 2
    rw [Nat.succ_mul]; omega
theorem nth_set {α : Type} [Inhabited α] (l : List α) (i j : Nat) (y : α) (hi : i < l.length) : nth (l.set i y) j = if j = i then y else nth l j := by
  unfold nth
  by_cases h : j = i
  · subst h; simp [List.getD, hi]
  · rw [if_neg h]; simp [List.getD, List.getElem?_set_ne (Ne.symm h)]

/-! ### The text of a mark -/
set_option linter.unusedVariables false in
def digF (k : Nat) (out : ByteArray) : ByteArray := if h : k = 0 then out else digF (k / 10) (strOfNums [48 + (k : Int) % 10] ++ out)
  termination_by k
  decreasing_by exact Nat.div_lt_self (Nat.pos_of_ne_zero h) (by omega)
theorem digF_zero (out : ByteArray) : digF 0 out = out := by unfold digF; rfl
theorem digF_step (k : Nat) (out : ByteArray) (h : k ≠ 0) : digF k out = digF (k / 10) (strOfNums [48 + (k : Int) % 10] ++ out) := by rw [digF, dif_neg h]
theorem digF_size (k : Nat) (out : ByteArray) : (digF k out).size ≤ k + out.size := by
  induction k using Nat.strongRecOn generalizing out with
  | ind k ih =>
    by_cases h : k = 0
    · subst h; rw [digF_zero]; omega
    · rw [digF_step k out h]
      have := ih (k / 10) (Nat.div_lt_self (by omega) (by omega)) (strOfNums [48 + (k : Int) % 10] ++ out)
      rw [ByteArray.size_append, strOfNums_size] at this
      have h2 : k / 10 < k := Nat.div_lt_self (by omega) (by omega)
      simp at this
      omega
def markB (k : Nat) : ByteArray := ByteArray.mk #[109] ++ digF k ByteArray.empty
end Go.Proofs.Ytoaegfoapkmdnaa

/- MarkI: numbers that the law marks, and their marks held. -/
namespace Go.Proofs.Ytoaegfoapkmdnaa
open Go.ChangeShapes Go.WideShapes Go.ChangeAt Go.RowKit

def intsM (l : List Int) : Nat := l.length
def intMarks (n k : Nat) : List Int := (List.range n).map fun i => ((k + i : Nat) : Int)
theorem intMarks_len (n k : Nat) : (intMarks n k).length = n := by simp [intMarks]
def InInts (w : World) (lo hi : Nat) (v : Value) (l : List Int) : Prop := RowIn 2 1 w lo hi v l.length (l.map (Value.int .i64))
section
variable {w w' : World} {lo hi : Nat} {v : Value} {l : List Int}
theorem InInts.of (h : OwnInts w lo v l) : InInts w lo w.heap.size v l := RowIn.of h
theorem InInts.below (h : InInts w lo hi v l) (hb : Below w.heap.size w w') : InInts w' lo hi v l := RowIn.below h hb
theorem InInts.turned {lo' hi' : Nat} (h : InInts w lo hi v l) (ht : Turned lo' hi' w w') (hd : hi ≤ lo' ∨ hi' ≤ lo) : InInts w' lo hi v l := RowIn.turned h ht hd
theorem InInts.at (h : InInts w lo hi v l) : IntsAt w v l := OwnInts.at h.1
end
end Go.Proofs.Ytoaegfoapkmdnaa
