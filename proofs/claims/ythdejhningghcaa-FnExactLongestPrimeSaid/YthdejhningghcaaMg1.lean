import Derived.Test.YthdejhningghcaaRows
import Derived.WalkKit
import Derived.WalkSpells
import Derived.WalkLawsBesides
import Derived.ProofKit
import Derived.OpenShut
import Derived.Handy
import Derived.Laws.StructEq
import Derived.Deep.QuietTactic
import Derived.BigQuiet
import Derived.Lib.Hide
import Derived.Lib.QuietBelow
/- Base: what the walks over this program say of Go's data in memory (slices of numbers, of cards), and small laws on them. -/
namespace Go.Proofs.Ythdejhningghcaa
open Go.ChangeShapes Go.WideShapes Go.ChangeAt Go.RowKit

/-- The call hands back v; of what was there nothing has turned. -/
def Gives (v : Value) (w : World) (e : Ending) (w' : World) : Prop := e = .returned v ∧ Below w.heap.size w w'
theorem Gives.bool {r b : Bool} {w w' : World} (h : r = b) (hb : Below w.heap.size w w') : Gives (.bool r) w (.returned (.bool b)) w' := ⟨by rw [h], hb⟩
theorem Gives.int {r b : Int} {k : IntKind} {w w' : World} (h : r = b) (hb : Below w.heap.size w w') : Gives (.int k r) w (.returned (.int k b)) w' := ⟨by rw [h], hb⟩
theorem Gives.ii {a1 a2 b1 b2 : Int} {k1 k2 : IntKind} {w w' : World} (h1 : a1 = b1) (h2 : a2 = b2) (hb : Below w.heap.size w w') : Gives (.tuple #[.int k1 a1, .int k2 a2]) w (.returned (.tuple #[.int k1 b1, .int k2 b2])) w' := ⟨by rw [h1, h2], hb⟩
theorem Gives.mk {v u : Value} {w w' : World} (h : u = v) (hb : Below w.heap.size w w') : Gives v w (.returned u) w' := ⟨by rw [h], hb⟩

theorem bthen {w w1 w2 : World} (h : Below w.heap.size w w1) (k : Below w1.heap.size w1 w2) : Below w.heap.size w w2 := h.trans (k.mono h.size)

theorem bcell {W w1 : World} (hb : Below W.heap.size W w1) : (∀ b o, b < W.heap.size → w1.cell? ⟨b, o, none⟩ = W.cell? ⟨b, o, none⟩) ∧ (∀ b o, b < W.heap.size → w1.frozen? ⟨b, o, none⟩ = W.frozen? ⟨b, o, none⟩) :=
  ⟨fun b o h => hb.cell (p := ⟨b, o, none⟩) h, fun b o h => hb.frozen (p := ⟨b, o, none⟩) h⟩

/-! ### A block of the call's own, known cell by cell -/
def BoxIs (w : World) (b : Nat) (l : List Value) : Prop := b < w.heap.size ∧ (∀ j, w.cell? ⟨b, j, none⟩ = l[j]?) ∧ (∀ j, w.frozen? ⟨b, j, none⟩ = false)
theorem BoxIs.cells {w : World} {b : Nat} {l : List Value} (h : BoxIs w b l) : (∀ j, w.cell? ⟨b, j, none⟩ = l[j]?) ∧ (∀ j, w.frozen? ⟨b, j, none⟩ = false) := h.2
theorem BoxIs.below {w w' : World} {b : Nat} {l : List Value} (h : BoxIs w b l) (hb : Below w.heap.size w w') : BoxIs w' b l :=
  ⟨Nat.lt_of_lt_of_le h.1 hb.size, fun j => (hb.cell (p := ⟨b, j, none⟩) h.1).trans (h.2.1 j), fun j => (hb.frozen (p := ⟨b, j, none⟩) h.1).trans (h.2.2 j)⟩
theorem BoxIs.set {w : World} {b : Nat} {l : List Value} (h : BoxIs w b l) (i : Nat) (hi : i < l.length) (v : Value) : BoxIs (w.setCell ⟨b, i, none⟩ v) b (l.set i v) := by
  refine ⟨by simpa [World.setCell] using h.1, fun j => ?_, fun j => (World.frozen?_setCell _ _ _ _).trans (h.2.2 j)⟩
  by_cases hj : i = j
  · subst hj
    rw [World.cell?_setCell_same' w ⟨b, i, none⟩ v (by rw [h.2.1 i]; simp [hi]), List.getElem?_set_self hi]
  · rw [World.cell?_setCell_other w ⟨b, i, none⟩ ⟨b, j, none⟩ v (fun e => hj (congrArg Addr.off e)), h.2.1 j, List.getElem?_set_ne hj]
theorem BoxIs.set_other {w : World} {b c : Nat} {l : List Value} (h : BoxIs w b l) (hc : c ≠ b) (i : Nat) (v : Value) : BoxIs (w.setCell ⟨c, i, none⟩ v) b l :=
  ⟨by simpa [World.setCell] using h.1, fun j => (World.cell?_setCell_other w ⟨c, i, none⟩ ⟨b, j, none⟩ v (fun e => hc (congrArg Addr.block e))).trans (h.2.1 j), fun j => (World.frozen?_setCell _ _ _ _).trans (h.2.2 j)⟩
theorem BoxIs.alloc {w : World} {b : Nat} {l : List Value} (h : BoxIs w b l) (o : Obj) : BoxIs (w.alloc o) b l :=
  ⟨by simp; exact Nat.lt_succ_of_lt h.1, fun j => (World.cell?_alloc_past _ _ _ h.1).trans (h.2.1 j), fun j => (World.frozen?_alloc_past _ _ _ h.1).trans (h.2.2 j)⟩
theorem BoxIs.new' {w : World} {b : Nat} (h : b = w.heap.size) (l : List Value) (t : TypeId) : BoxIs (w.alloc (.cells l.toArray t)) b l := by
  subst h
  exact ⟨by simp, fun j => by rw [World.cell?_alloc_at _ _ _ _ rfl]; simp, fun j => World.frozen?_alloc_at _ _ _ _ rfl⟩
theorem BoxIs.new (w : World) (l : List Value) (t : TypeId) : BoxIs (w.alloc (.cells l.toArray t)) w.heap.size l :=
  ⟨by simp, fun j => by rw [World.cell?_alloc_at _ _ _ _ rfl]; simp, fun j => World.frozen?_alloc_at _ _ _ _ rfl⟩

theorem cell_then {w w' : World} {b o : Nat} {v : Value} (hs : b < w.heap.size) (h : w.cell? ⟨b, o, none⟩ = some v) (hb : Below w.heap.size w w') : w'.cell? ⟨b, o, none⟩ = some v := (hb.cell (p := ⟨b, o, none⟩) hs).trans h

/-- The i-th of a list. -/
def nth {α : Type} [Inhabited α] (l : List α) (i : Nat) : α := l.getD i default
theorem nth_eq {α : Type} [Inhabited α] (l : List α) (i : Nat) (h : i < l.length) : nth l i = l[i] := by simp [nth, h]
theorem nth_get? {α : Type} [Inhabited α] (l : List α) (i : Nat) (h : i < l.length) : l[i]? = some (nth l i) := by simp [nth, h]
theorem drop_nth {α : Type} [Inhabited α] (l : List α) (i : Nat) (h : i < l.length) : l.drop i = nth l i :: l.drop (i + 1) := by
  rw [nth_eq l i h]; exact List.drop_eq_getElem_cons h
theorem nth_cons_succ {α : Type} [Inhabited α] (x : α) (l : List α) (i : Nat) : nth (x :: l) (i + 1) = nth l i := by simp [nth]
theorem nth_cons_zero {α : Type} [Inhabited α] (x : α) (l : List α) : nth (x :: l) 0 = x := by simp [nth]
theorem drop_end {α : Type} (l : List α) (k n : Nat) (h : n = l.length) (hk : n ≤ k) : l.drop k = [] := List.drop_eq_nil_of_le (by omega)
theorem take_nth {α : Type} [Inhabited α] (l : List α) (i : Nat) (h : i < l.length) : l.take (i + 1) = l.take i ++ [nth l i] := by
  rw [nth_eq l i h, List.take_succ_eq_append_getElem h]

theorem beq_bytes (a b : ByteArray) : (a.toList == b.toList) = decide (a = b) := by
  have h : (a.toList = b.toList) ↔ a = b := by
    rw [ByteArray.toList_eq, ByteArray.toList_eq]
    constructor
    · intro h
      obtain ⟨⟨x⟩⟩ := a
      obtain ⟨⟨y⟩⟩ := b
      simp at h
      rw [h]
    · intro h; rw [h]
  by_cases he : a = b
  · simp [he]
  · rw [decide_eq_false he]; simpa using fun hh => he (h.1 hh)

/-- Two lists of one length, equal place by place. -/
def same2 {α : Type} (eq : α → α → Bool) : List α → List α → Bool
  | [], [] => true
  | x :: l, y :: m => eq x y && same2 eq l m
  | _, _ => false
theorem same2_len {α : Type} (eq : α → α → Bool) : ∀ (l m : List α), l.length ≠ m.length → same2 eq l m = false
  | [], [], h => absurd rfl h
  | x :: l, y :: m, h => by simp [same2, same2_len eq l m (by simpa using h)]
  | [], _ :: _, _ => rfl
  | _ :: _, [], _ => rfl
theorem same2_iff {α : Type} (eq : α → α → Bool) (he : ∀ x y, eq x y = true ↔ x = y) : ∀ (l m : List α), same2 eq l m = true ↔ l = m
  | [], [] => by simp [same2]
  | x :: l, y :: m => by simp [same2, same2_iff eq he l m, he]
  | [], _ :: _ => by simp [same2]
  | _ :: _, [] => by simp [same2]
theorem same2_step {α : Type} [Inhabited α] (eq : α → α → Bool) (l m : List α) (k : Nat) (hl : k < l.length) (hm : k < m.length) :
    same2 eq (l.drop k) (m.drop k) = (eq (nth l k) (nth m k) && same2 eq (l.drop (k + 1)) (m.drop (k + 1))) := by
  rw [drop_nth l k hl, drop_nth m k hm]; rfl

/-! ### Slices of numbers -/
def IntsC (w : World) (a : Option Addr) (l : List Int) : Prop :=
  ∀ i, i < l.length → ∃ b o, a = some ⟨b, o, none⟩ ∧ b < w.heap.size ∧ w.cell? ⟨b, o + i, none⟩ = some (.int .i64 (nth l i))
def IntsAt (w : World) (v : Value) (l : List Int) : Prop := ∃ a n cap, v = .slice a n cap ∧ n = l.length ∧ n ≤ cap ∧ cap ≤ 9223372036854775807 ∧ IntsC w a l
theorem IntsC.below {w w' : World} {a : Option Addr} {l : List Int} (h : IntsC w a l) (hb : Below w.heap.size w w') : IntsC w' a l := by
  intro i hi
  obtain ⟨b, o, ha, hs, c0⟩ := h i hi
  exact ⟨b, o, ha, Nat.lt_of_lt_of_le hs hb.size, (hb.cell (p := ⟨b, _, none⟩) hs).trans c0⟩
theorem IntsC.set {w : World} {a : Option Addr} {l : List Int} (h : IntsC w a l) {p : Addr} (hp : ∀ b o, a = some ⟨b, o, none⟩ → b ≠ p.block) (u : Value) : IntsC (w.setCell p u) a l := by
  intro i hi
  obtain ⟨b, o, ha, hs, c0⟩ := h i hi
  exact ⟨b, o, ha, by simpa [World.setCell] using hs, (World.cell?_setCell_other w p ⟨b, _, none⟩ u (fun e => hp b o ha (congrArg Addr.block e).symm)).trans c0⟩
theorem IntsAt.below {w w' : World} {v : Value} {l : List Int} (h : IntsAt w v l) (hb : Below w.heap.size w w') : IntsAt w' v l := by
  obtain ⟨a, n, cap, rfl, h1, h2, h3, hc⟩ := h
  exact ⟨a, n, cap, rfl, h1, h2, h3, hc.below hb⟩

/-! ### Queries -/
structure Query where
  period : Int
  props : Int
  high : Int
  need : List Int
  avoid : List Int
  canonical : Bool
/-- The six cells of a query, its two lists in memory. -/
structure QAt (w : World) (q : Query) (y z : Value) : Prop where
  need : IntsAt w y q.need
  avoid : IntsAt w z q.avoid
theorem QAt.drewn {w : World} {q : Query} {y z : Value} (h : QAt w q y z) : QAt w.drew q y z := ⟨h.need.below (Below.refl _ _).drew, h.avoid.below (Below.refl _ _).drew⟩
theorem QAt.below {w w' : World} {q : Query} {y z : Value} (h : QAt w q y z) (hb : Below w.heap.size w w') : QAt w' q y z := ⟨h.need.below hb, h.avoid.below hb⟩

/-! ### Rows of the call's own -/
theorem flat_ext {α : Type} [Inhabited α] (enc : α → List Value) (k : Nat) (hk : ∀ x, (enc x).length = k) : ∀ (l : List α) (xs : List Value), xs.length = l.length * k →
    (∀ i, i < l.length → ∀ j, j < k → xs[i * k + j]? = (enc (nth l i))[j]?) → xs = l.flatMap enc
  | [], xs, hl, _ => by simpa using hl
  | x :: l, xs, hl, h => by
    have h1 : xs = xs.take k ++ xs.drop k := (List.take_append_drop k xs).symm
    have hl' : xs.length = l.length * k + k := by simpa [Nat.succ_mul] using hl
    have h2 : xs.take k = enc x := by
      apply List.ext_getElem?
      intro j
      by_cases hj : j < k
      · rw [List.getElem?_take, if_pos hj]
        have := h 0 (by simp) j hj
        simpa [nth_cons_zero] using this
      · rw [List.getElem?_eq_none (by simp; omega), List.getElem?_eq_none (by rw [hk]; omega)]
    have h3 : xs.drop k = l.flatMap enc := by
      apply flat_ext enc k hk l
      · simp; omega
      · intro i hi j hj
        have := h (i + 1) (by simpa using hi) j hj
        rw [nth_cons_succ] at this
        rw [List.getElem?_drop, ← this]
        congr 1
        rw [Nat.succ_mul]; omega
    rw [h1, h2, h3]; rfl
theorem flat_at {α : Type} [Inhabited α] (enc : α → List Value) (k : Nat) (hk : ∀ x, (enc x).length = k) : ∀ (l : List α) (i : Nat), i < l.length → ∀ j, j < k → (l.flatMap enc)[i * k + j]? = (enc (nth l i))[j]?
  | [], i, hi, _, _ => absurd hi (Nat.not_lt_zero _)
  | x :: l, 0, _, j, hj => by
    rw [List.flatMap_cons, nth_cons_zero, Nat.zero_mul, Nat.zero_add, List.getElem?_append_left (by rw [hk]; exact hj)]
  | x :: l, i + 1, hi, j, hj => by
    rw [List.flatMap_cons, nth_cons_succ, ← flat_at enc k hk l i (by simpa using hi) j hj, List.getElem?_append_right (by rw [hk, Nat.succ_mul]; omega), hk]
    congr 1
    rw [Nat.succ_mul]; omega
theorem flat_len {α : Type} (enc : α → List Value) (k : Nat) (hk : ∀ x, (enc x).length = k) : ∀ l : List α, (l.flatMap enc).length = l.length * k
  | [] => by simp
  | x :: l => by simp [flat_len enc k hk l, hk, Nat.succ_mul]; omega

theorem own_below {w w' : World} {base : Nat} {e : TypeId} {size : Nat} {v : Value} {n : Nat} {xs : List Value} (h : w.ownsRow base e size v n xs) (hb : Below w.heap.size w w') : w'.ownsRow base e size v n xs :=
  h.kept (row := none) ⟨hb.os, hb.tape, hb.output, hb.size, fun k hk _ => hb.block k hk⟩ (by cases hv : v.ownBlock <;> simp)
theorem fill3 {α : Type} [Inhabited α] {enc : α → List Value} {l : List α} {k : Nat} {xs : List Value} {x y z : Value} (h : ∀ i, i < k → ∀ j, j < 3 → xs[i * 3 + j]? = (enc (nth l i))[j]?) (he : enc (nth l k) = [x, y, z]) (hlen : k * 3 + 3 ≤ xs.length) :
    ∀ i, i < k + 1 → ∀ j, j < 3 → (((xs.set (k * 3) x).set (k * 3 + 1) y).set (k * 3 + 2) z)[i * 3 + j]? = (enc (nth l i))[j]? := by
  intro i hi j hj
  by_cases hik : i < k
  · rw [List.getElem?_set_ne (by omega), List.getElem?_set_ne (by omega), List.getElem?_set_ne (by omega)]
    exact h i hik j hj
  · obtain rfl : i = k := by omega
    rw [he]
    match j, hj with
    | 0, _ => rw [List.getElem?_set_ne (by omega), List.getElem?_set_ne (by omega), Nat.add_zero, List.getElem?_set_self (by omega)]; rfl
    | 1, _ => rw [List.getElem?_set_ne (by omega), List.getElem?_set_self (by simp; omega)]; rfl
    | 2, _ => rw [List.getElem?_set_self (by simp; omega)]; rfl
theorem fill2 {α : Type} [Inhabited α] {enc : α → List Value} {l : List α} {k : Nat} {xs : List Value} {x y : Value} (h : ∀ i, i < k → ∀ j, j < 2 → xs[i * 2 + j]? = (enc (nth l i))[j]?) (he : enc (nth l k) = [x, y]) (hlen : k * 2 + 2 ≤ xs.length) :
    ∀ i, i < k + 1 → ∀ j, j < 2 → ((xs.set (k * 2) x).set (k * 2 + 1) y)[i * 2 + j]? = (enc (nth l i))[j]? := by
  intro i hi j hj
  by_cases hik : i < k
  · rw [List.getElem?_set_ne (by omega), List.getElem?_set_ne (by omega)]
    exact h i hik j hj
  · obtain rfl : i = k := by omega
    rw [he]
    match j, hj with
    | 0, _ => rw [List.getElem?_set_ne (by omega), Nat.add_zero, List.getElem?_set_self (by omega)]; rfl
    | 1, _ => rw [List.getElem?_set_self (by simp; omega)]; rfl
theorem own_store2 {w : World} {base : Nat} {e : TypeId} {size g n cap : Nat} {xs : List Value} (h : w.ownsRow base e size (.slice (some ⟨g, 0, none⟩) n cap) n xs) (j : Nat) (x y : Value) :
    ((w.setCell ⟨g, j, none⟩ x).setCell ⟨g, j + 1, none⟩ y).ownsRow base e size (.slice (some ⟨g, 0, none⟩) n cap) n ((xs.set j x).set (j + 1) y) :=
  ((h.stored j x).1.stored (j + 1) y).1
theorem own_store3 {w : World} {base : Nat} {e : TypeId} {size g n cap : Nat} {xs : List Value} (h : w.ownsRow base e size (.slice (some ⟨g, 0, none⟩) n cap) n xs) (j : Nat) (x y z : Value) :
    (((w.setCell ⟨g, j, none⟩ x).setCell ⟨g, j + 1, none⟩ y).setCell ⟨g, j + 2, none⟩ z).ownsRow base e size (.slice (some ⟨g, 0, none⟩) n cap) n (((xs.set j x).set (j + 1) y).set (j + 2) z) :=
  (((h.stored j x).1.stored (j + 1) y).1.stored (j + 2) z).1
theorem row_ext (l : List Int) (xs : List Value) (hl : xs.length = l.length) (h : ∀ i, i < l.length → xs[i]? = some (.int .i64 (nth l i))) : xs = l.map (Value.int .i64) := by
  apply List.ext_getElem?
  intro i
  by_cases hi : i < l.length
  · rw [h i hi, List.getElem?_map, nth_get? l i hi]; rfl
  · rw [List.getElem?_eq_none (by omega), List.getElem?_eq_none (by simp; omega)]
def OwnInts (w : World) (base : Nat) (v : Value) (l : List Int) : Prop := w.ownsRow base 2 1 v l.length (l.map (Value.int .i64))
theorem OwnInts.at {w : World} {base : Nat} {v : Value} {l : List Int} (h : OwnInts w base v l) : IntsAt w v l := by
  have ho : w.ownsRow base 2 1 v l.length (l.map (Value.int .i64)) := h
  have hlt := ho.lt
  rcases ho.2 with ⟨rfl, h0⟩ | ⟨g, cap, cur, rfl, hb, hg, hnc, hcm, hcs, htake⟩
  · exact ⟨none, 0, 0, rfl, h0.symm, Nat.le_refl _, by decide, fun i hi => by omega⟩
  · refine ⟨_, _, _, rfl, rfl, hnc, hcm, fun i hi => ⟨g, 0, rfl, (hlt g rfl).2, ?_⟩⟩
    have := ho.cellAt i (by omega)
    rw [Nat.zero_add, this, List.getElem?_map, nth_get? l i hi]; rfl
theorem fill1 {l : List Int} {k : Nat} {xs : List Value} (h : ∀ i, i < k → xs[i]? = some (.int .i64 (nth l i))) (hlen : k < xs.length) :
    ∀ i, i < k + 1 → (xs.set k (.int .i64 (nth l k)))[i]? = some (.int .i64 (nth l i)) := by
  intro i hi
  by_cases hik : i < k
  · rw [List.getElem?_set_ne (by omega)]; exact h i hik
  · obtain rfl : i = k := by omega
    rw [List.getElem?_set_self hlen]
theorem mem_nth {α : Type} [Inhabited α] {l : List α} {i : Nat} (h : i < l.length) : nth l i ∈ l := by rw [nth_eq l i h]; exact List.getElem_mem h
end Go.Proofs.Ythdejhningghcaa
