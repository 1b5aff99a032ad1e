import Derived.Test.YtcgbdhbdlnimhaaGreatRows
import Derived.WalkKit
import Derived.WalkSpells
import Derived.WalkLawsBesides
import Derived.ProofKit
import Derived.OpenShut
import Derived.Handy
import Derived.Laws.StructEq
import Derived.Deep.QuietTactic
import Derived.BigQuiet
import Derived.Lib.Hide
import Derived.Lib.QuietBelow
/- Base: what the walks over this program say of Go's data in memory (slices of numbers, of cards), and small laws on them. -/
namespace Go.Proofs.YtcgbdhbdlnimhaaGreat
open Go.ChangeShapes Go.WideShapes Go.ChangeAt Go.RowKit

/-- The call hands back v; of what was there nothing has turned. -/
def Gives (v : Value) (w : World) (e : Ending) (w' : World) : Prop := e = .returned v ∧ Below w.heap.size w w'
theorem Gives.bool {r b : Bool} {w w' : World} (h : r = b) (hb : Below w.heap.size w w') : Gives (.bool r) w (.returned (.bool b)) w' := ⟨by rw [h], hb⟩
theorem Gives.int {r b : Int} {k : IntKind} {w w' : World} (h : r = b) (hb : Below w.heap.size w w') : Gives (.int k r) w (.returned (.int k b)) w' := ⟨by rw [h], hb⟩
theorem Gives.ii {a1 a2 b1 b2 : Int} {k1 k2 : IntKind} {w w' : World} (h1 : a1 = b1) (h2 : a2 = b2) (hb : Below w.heap.size w w') : Gives (.tuple #[.int k1 a1, .int k2 a2]) w (.returned (.tuple #[.int k1 b1, .int k2 b2])) w' := ⟨by rw [h1, h2], hb⟩
theorem Gives.mk {v u : Value} {w w' : World} (h : u = v) (hb : Below w.heap.size w w') : Gives v w (.returned u) w' := ⟨by rw [h], hb⟩

theorem bthen {w w1 w2 : World} (h : Below w.heap.size w w1) (k : Below w1.heap.size w1 w2) : Below w.heap.size w w2 := h.trans (k.mono h.size)

theorem bcell {W w1 : World} (hb : Below W.heap.size W w1) : (∀ b o, b < W.heap.size → w1.cell? ⟨b, o, none⟩ = W.cell? ⟨b, o, none⟩) ∧ (∀ b o, b < W.heap.size → w1.frozen? ⟨b, o, none⟩ = W.frozen? ⟨b, o, none⟩) :=
  ⟨fun b o h => hb.cell (p := ⟨b, o, none⟩) h, fun b o h => hb.frozen (p := ⟨b, o, none⟩) h⟩

/-! ### A block of the call's own, known cell by cell -/
def BoxIs (w : World) (b : Nat) (l : List Value) : Prop := b < w.heap.size ∧ (∀ j, w.cell? ⟨b, j, none⟩ = l[j]?) ∧ (∀ j, w.frozen? ⟨b, j, none⟩ = false)
theorem BoxIs.cells {w : World} {b : Nat} {l : List Value} (h : BoxIs w b l) : (∀ j, w.cell? ⟨b, j, none⟩ = l[j]?) ∧ (∀ j, w.frozen? ⟨b, j, none⟩ = false) := h.2
theorem BoxIs.below {w w' : World} {b : Nat} {l : List Value} (h : BoxIs w b l) (hb : Below w.heap.size w w') : BoxIs w' b l :=
  ⟨Nat.lt_of_lt_of_le h.1 hb.size, fun j => (hb.cell (p := ⟨b, j, none⟩) h.1).trans (h.2.1 j), fun j => (hb.frozen (p := ⟨b, j, none⟩) h.1).trans (h.2.2 j)⟩
theorem BoxIs.set {w : World} {b : Nat} {l : List Value} (h : BoxIs w b l) (i : Nat) (hi : i < l.length) (v : Value) : BoxIs (w.setCell ⟨b, i, none⟩ v) b (l.set i v) := by
  refine ⟨by simpa [World.setCell] using h.1, fun j => ?_, fun j => (World.frozen?_setCell _ _ _ _).trans (h.2.2 j)⟩
  by_cases hj : i = j
  · subst hj
    rw [World.cell?_setCell_same' w ⟨b, i, none⟩ v (by rw [h.2.1 i]; simp [hi]), List.getElem?_set_self hi]
  · rw [World.cell?_setCell_other w ⟨b, i, none⟩ ⟨b, j, none⟩ v (fun e => hj (congrArg Addr.off e)), h.2.1 j, List.getElem?_set_ne hj]
theorem BoxIs.set_other {w : World} {b c : Nat} {l : List Value} (h : BoxIs w b l) (hc : c ≠ b) (i : Nat) (v : Value) : BoxIs (w.setCell ⟨c, i, none⟩ v) b l :=
  ⟨by simpa [World.setCell] using h.1, fun j => (World.cell?_setCell_other w ⟨c, i, none⟩ ⟨b, j, none⟩ v (fun e => hc (congrArg Addr.block e))).trans (h.2.1 j), fun j => (World.frozen?_setCell _ _ _ _).trans (h.2.2 j)⟩
theorem BoxIs.alloc {w : World} {b : Nat} {l : List Value} (h : BoxIs w b l) (o : Obj) : BoxIs (w.alloc o) b l :=
  ⟨by simp; exact Nat.lt_succ_of_lt h.1, fun j => (World.cell?_alloc_past _ _ _ h.1).trans (h.2.1 j), fun j => (World.frozen?_alloc_past _ _ _ h.1).trans (h.2.2 j)⟩
theorem BoxIs.new' {w : World} {b : Nat} (h : b = w.heap.size) (l : List Value) (t : TypeId) : BoxIs (w.alloc (.cells l.toArray t)) b l := by
  subst h
  exact ⟨by simp, fun j => by rw [World.cell?_alloc_at _ _ _ _ rfl]; simp, fun j => World.frozen?_alloc_at _ _ _ _ rfl⟩
theorem BoxIs.new (w : World) (l : List Value) (t : TypeId) : BoxIs (w.alloc (.cells l.toArray t)) w.heap.size l :=
  ⟨by simp, fun j => by rw [World.cell?_alloc_at _ _ _ _ rfl]; simp, fun j => World.frozen?_alloc_at _ _ _ _ rfl⟩

theorem cell_then {w w' : World} {b o : Nat} {v : Value} (hs : b < w.heap.size) (h : w.cell? ⟨b, o, none⟩ = some v) (hb : Below w.heap.size w w') : w'.cell? ⟨b, o, none⟩ = some v := (hb.cell (p := ⟨b, o, none⟩) hs).trans h

/-- The i-th of a list. -/
def nth {α : Type} [Inhabited α] (l : List α) (i : Nat) : α := l.getD i default
theorem nth_eq {α : Type} [Inhabited α] (l : List α) (i : Nat) (h : i < l.length) : nth l i = l[i] := by simp [nth, h]
theorem nth_get? {α : Type} [Inhabited α] (l : List α) (i : Nat) (h : i < l.length) : l[i]? = some (nth l i) := by simp [nth, h]
theorem drop_nth {α : Type} [Inhabited α] (l : List α) (i : Nat) (h : i < l.length) : l.drop i = nth l i :: l.drop (i + 1) := by
  rw [nth_eq l i h]; exact List.drop_eq_getElem_cons h
theorem nth_cons_succ {α : Type} [Inhabited α] (x : α) (l : List α) (i : Nat) : nth (x :: l) (i + 1) = nth l i := by simp [nth]
theorem nth_cons_zero {α : Type} [Inhabited α] (x : α) (l : List α) : nth (x :: l) 0 = x := by simp [nth]
theorem drop_end {α : Type} (l : List α) (k n : Nat) (h : n = l.length) (hk : n ≤ k) : l.drop k = [] := List.drop_eq_nil_of_le (by omega)
theorem take_nth {α : Type} [Inhabited α] (l : List α) (i : Nat) (h : i < l.length) : l.take (i + 1) = l.take i ++ [nth l i] := by
  rw [nth_eq l i h, List.take_succ_eq_append_getElem h]

theorem beq_bytes (a b : ByteArray) : (a.toList == b.toList) = decide (a = b) := by
  have h : (a.toList = b.toList) ↔ a = b := by
    rw [ByteArray.toList_eq, ByteArray.toList_eq]
    constructor
    · intro h
      obtain ⟨⟨x⟩⟩ := a
      obtain ⟨⟨y⟩⟩ := b
      simp at h
      rw [h]
    · intro h; rw [h]
  by_cases he : a = b
  · simp [he]
  · rw [decide_eq_false he]; simpa using fun hh => he (h.1 hh)

/-- Two lists of one length, equal place by place. -/
def same2 {α : Type} (eq : α → α → Bool) : List α → List α → Bool
  | [], [] => true
  | x :: l, y :: m => eq x y && same2 eq l m
  | _, _ => false
theorem same2_len {α : Type} (eq : α → α → Bool) : ∀ (l m : List α), l.length ≠ m.length → same2 eq l m = false
  | [], [], h => absurd rfl h
  | x :: l, y :: m, h => by simp [same2, same2_len eq l m (by simpa using h)]
  | [], _ :: _, _ => rfl
  | _ :: _, [], _ => rfl
theorem same2_iff {α : Type} (eq : α → α → Bool) (he : ∀ x y, eq x y = true ↔ x = y) : ∀ (l m : List α), same2 eq l m = true ↔ l = m
  | [], [] => by simp [same2]
  | x :: l, y :: m => by simp [same2, same2_iff eq he l m, he]
  | [], _ :: _ => by simp [same2]
  | _ :: _, [] => by simp [same2]
theorem same2_step {α : Type} [Inhabited α] (eq : α → α → Bool) (l m : List α) (k : Nat) (hl : k < l.length) (hm : k < m.length) :
    same2 eq (l.drop k) (m.drop k) = (eq (nth l k) (nth m k) && same2 eq (l.drop (k + 1)) (m.drop (k + 1))) := by
  rw [drop_nth l k hl, drop_nth m k hm]; rfl

/-! ### Slices of numbers -/
def IntsC (w : World) (a : Option Addr) (l : List Int) : Prop :=
  ∀ i, i < l.length → ∃ b o, a = some ⟨b, o, none⟩ ∧ b < w.heap.size ∧ w.cell? ⟨b, o + i, none⟩ = some (.int .i64 (nth l i))
def IntsAt (w : World) (v : Value) (l : List Int) : Prop := ∃ a n cap, v = .slice a n cap ∧ n = l.length ∧ n ≤ cap ∧ cap ≤ 9223372036854775807 ∧ IntsC w a l
theorem IntsC.below {w w' : World} {a : Option Addr} {l : List Int} (h : IntsC w a l) (hb : Below w.heap.size w w') : IntsC w' a l := by
  intro i hi
  obtain ⟨b, o, ha, hs, c0⟩ := h i hi
  exact ⟨b, o, ha, Nat.lt_of_lt_of_le hs hb.size, (hb.cell (p := ⟨b, _, none⟩) hs).trans c0⟩
theorem IntsC.set {w : World} {a : Option Addr} {l : List Int} (h : IntsC w a l) {p : Addr} (hp : ∀ b o, a = some ⟨b, o, none⟩ → b ≠ p.block) (u : Value) : IntsC (w.setCell p u) a l := by
  intro i hi
  obtain ⟨b, o, ha, hs, c0⟩ := h i hi
  exact ⟨b, o, ha, by simpa [World.setCell] using hs, (World.cell?_setCell_other w p ⟨b, _, none⟩ u (fun e => hp b o ha (congrArg Addr.block e).symm)).trans c0⟩
theorem IntsAt.below {w w' : World} {v : Value} {l : List Int} (h : IntsAt w v l) (hb : Below w.heap.size w w') : IntsAt w' v l := by
  obtain ⟨a, n, cap, rfl, h1, h2, h3, hc⟩ := h
  exact ⟨a, n, cap, rfl, h1, h2, h3, hc.below hb⟩

/-! ### Queries -/
structure Query where
  period : Int
  props : Int
  high : Int
  need : List Int
  avoid : List Int
  canonical : Bool
/-- The six cells of a query, its two lists in memory. -/
structure QAt (w : World) (q : Query) (y z : Value) : Prop where
  need : IntsAt w y q.need
  avoid : IntsAt w z q.avoid
theorem QAt.drewn {w : World} {q : Query} {y z : Value} (h : QAt w q y z) : QAt w.drew q y z := ⟨h.need.below (Below.refl _ _).drew, h.avoid.below (Below.refl _ _).drew⟩
theorem QAt.below {w w' : World} {q : Query} {y z : Value} (h : QAt w q y z) (hb : Below w.heap.size w w') : QAt w' q y z := ⟨h.need.below hb, h.avoid.below hb⟩

/-! ### Rows of the call's own -/
theorem flat_ext {α : Type} [Inhabited α] (enc : α → List Value) (k : Nat) (hk : ∀ x, (enc x).length = k) : ∀ (l : List α) (xs : List Value), xs.length = l.length * k →
    (∀ i, i < l.length → ∀ j, j < k → xs[i * k + j]? = (enc (nth l i))[j]?) → xs = l.flatMap enc
  | [], xs, hl, _ => by simpa using hl
  | x :: l, xs, hl, h => by
    have h1 : xs = xs.take k ++ xs.drop k := (List.take_append_drop k xs).symm
    have hl' : xs.length = l.length * k + k := by simpa [Nat.succ_mul] using hl
    have h2 : xs.take k = enc x := by
      apply List.ext_getElem?
      intro j
      by_cases hj : j < k
      · rw [List.getElem?_take, if_pos hj]
        have := h 0 (by simp) j hj
        simpa [nth_cons_zero] using this
      · rw [List.getElem?_eq_none (by simp; omega), List.getElem?_eq_none (by rw [hk]; omega)]
    have h3 : xs.drop k = l.flatMap enc := by
      apply flat_ext enc k hk l
      · simp; omega
      · intro i hi j hj
        have := h (i + 1) (by simpa using hi) j hj
        rw [nth_cons_succ] at this
        rw [List.getElem?_drop, ← this]
        congr 1
        rw [Nat.succ_mul]; omega
    rw [h1, h2, h3]; rfl
theorem flat_at {α : Type} [Inhabited α] (enc : α → List Value) (k : Nat) (hk : ∀ x, (enc x).length = k) : ∀ (l : List α) (i : Nat), i < l.length → ∀ j, j < k → (l.flatMap enc)[i * k + j]? = (enc (nth l i))[j]?
  | [], i, hi, _, _ => absurd hi (Nat.not_lt_zero _)
  | x :: l, 0, _, j, hj => by
    rw [List.flatMap_cons, nth_cons_zero, Nat.zero_mul, Nat.zero_add, List.getElem?_append_left (by rw [hk]; exact hj)]
  | x :: l, i + 1, hi, j, hj => by
    rw [List.flatMap_cons, nth_cons_succ, ← flat_at enc k hk l i (by simpa using hi) j hj, List.getElem?_append_right (by rw [hk, Nat.succ_mul]; omega), hk]
    congr 1
    rw [Nat.succ_mul]; omega
theorem flat_len {α : Type} (enc : α → List Value) (k : Nat) (hk : ∀ x, (enc x).length = k) : ∀ l : List α, (l.flatMap enc).length = l.length * k
  | [] => by simp
  | x :: l => by simp [flat_len enc k hk l, hk, Nat.succ_mul]; omega

theorem own_below {w w' : World} {base : Nat} {e : TypeId} {size : Nat} {v : Value} {n : Nat} {xs : List Value} (h : w.ownsRow base e size v n xs) (hb : Below w.heap.size w w') : w'.ownsRow base e size v n xs :=
  h.kept (row := none) ⟨hb.os, hb.tape, hb.output, hb.size, fun k hk _ => hb.block k hk⟩ (by cases hv : v.ownBlock <;> simp)
theorem fill3 {α : Type} [Inhabited α] {enc : α → List Value} {l : List α} {k : Nat} {xs : List Value} {x y z : Value} (h : ∀ i, i < k → ∀ j, j < 3 → xs[i * 3 + j]? = (enc (nth l i))[j]?) (he : enc (nth l k) = [x, y, z]) (hlen : k * 3 + 3 ≤ xs.length) :
    ∀ i, i < k + 1 → ∀ j, j < 3 → (((xs.set (k * 3) x).set (k * 3 + 1) y).set (k * 3 + 2) z)[i * 3 + j]? = (enc (nth l i))[j]? := by
  intro i hi j hj
  by_cases hik : i < k
  · rw [List.getElem?_set_ne (by omega), List.getElem?_set_ne (by omega), List.getElem?_set_ne (by omega)]
    exact h i hik j hj
  · obtain rfl : i = k := by omega
    rw [he]
    match j, hj with
    | 0, _ => rw [List.getElem?_set_ne (by omega), List.getElem?_set_ne (by omega), Nat.add_zero, List.getElem?_set_self (by omega)]; rfl
    | 1, _ => rw [List.getElem?_set_ne (by omega), List.getElem?_set_self (by simp; omega)]; rfl
    | 2, _ => rw [List.getElem?_set_self (by simp; omega)]; rfl
theorem fill2 {α : Type} [Inhabited α] {enc : α → List Value} {l : List α} {k : Nat} {xs : List Value} {x y : Value} (h : ∀ i, i < k → ∀ j, j < 2 → xs[i * 2 + j]? = (enc (nth l i))[j]?) (he : enc (nth l k) = [x, y]) (hlen : k * 2 + 2 ≤ xs.length) :
    ∀ i, i < k + 1 → ∀ j, j < 2 → ((xs.set (k * 2) x).set (k * 2 + 1) y)[i * 2 + j]? = (enc (nth l i))[j]? := by
  intro i hi j hj
  by_cases hik : i < k
  · rw [List.getElem?_set_ne (by omega), List.getElem?_set_ne (by omega)]
    exact h i hik j hj
  · obtain rfl : i = k := by omega
    rw [he]
    match j, hj with
    | 0, _ => rw [List.getElem?_set_ne (by omega), Nat.add_zero, List.getElem?_set_self (by omega)]; rfl
    | 1, _ => rw [List.getElem?_set_self (by simp; omega)]; rfl
theorem own_store2 {w : World} {base : Nat} {e : TypeId} {size g n cap : Nat} {xs : List Value} (h : w.ownsRow base e size (.slice (some ⟨g, 0, none⟩) n cap) n xs) (j : Nat) (x y : Value) :
    ((w.setCell ⟨g, j, none⟩ x).setCell ⟨g, j + 1, none⟩ y).ownsRow base e size (.slice (some ⟨g, 0, none⟩) n cap) n ((xs.set j x).set (j + 1) y) :=
  ((h.stored j x).1.stored (j + 1) y).1
theorem own_store3 {w : World} {base : Nat} {e : TypeId} {size g n cap : Nat} {xs : List Value} (h : w.ownsRow base e size (.slice (some ⟨g, 0, none⟩) n cap) n xs) (j : Nat) (x y z : Value) :
    (((w.setCell ⟨g, j, none⟩ x).setCell ⟨g, j + 1, none⟩ y).setCell ⟨g, j + 2, none⟩ z).ownsRow base e size (.slice (some ⟨g, 0, none⟩) n cap) n (((xs.set j x).set (j + 1) y).set (j + 2) z) :=
  (((h.stored j x).1.stored (j + 1) y).1.stored (j + 2) z).1
theorem row_ext (l : List Int) (xs : List Value) (hl : xs.length = l.length) (h : ∀ i, i < l.length → xs[i]? = some (.int .i64 (nth l i))) : xs = l.map (Value.int .i64) := by
  apply List.ext_getElem?
  intro i
  by_cases hi : i < l.length
  · rw [h i hi, List.getElem?_map, nth_get? l i hi]; rfl
  · rw [List.getElem?_eq_none (by omega), List.getElem?_eq_none (by simp; omega)]
def OwnInts (w : World) (base : Nat) (v : Value) (l : List Int) : Prop := w.ownsRow base 2 1 v l.length (l.map (Value.int .i64))
theorem OwnInts.at {w : World} {base : Nat} {v : Value} {l : List Int} (h : OwnInts w base v l) : IntsAt w v l := by
  have ho : w.ownsRow base 2 1 v l.length (l.map (Value.int .i64)) := h
  have hlt := ho.lt
  rcases ho.2 with ⟨rfl, h0⟩ | ⟨g, cap, cur, rfl, hb, hg, hnc, hcm, hcs, htake⟩
  · exact ⟨none, 0, 0, rfl, h0.symm, Nat.le_refl _, by decide, fun i hi => by omega⟩
  · refine ⟨_, _, _, rfl, rfl, hnc, hcm, fun i hi => ⟨g, 0, rfl, (hlt g rfl).2, ?_⟩⟩
    have := ho.cellAt i (by omega)
    rw [Nat.zero_add, this, List.getElem?_map, nth_get? l i hi]; rfl
theorem fill1 {l : List Int} {k : Nat} {xs : List Value} (h : ∀ i, i < k → xs[i]? = some (.int .i64 (nth l i))) (hlen : k < xs.length) :
    ∀ i, i < k + 1 → (xs.set k (.int .i64 (nth l k)))[i]? = some (.int .i64 (nth l i)) := by
  intro i hi
  by_cases hik : i < k
  · rw [List.getElem?_set_ne (by omega)]; exact h i hik
  · obtain rfl : i = k := by omega
    rw [List.getElem?_set_self hlen]
theorem mem_nth {α : Type} [Inhabited α] {l : List α} {i : Nat} (h : i < l.length) : nth l i ∈ l := by rw [nth_eq l i h]; exact List.getElem_mem h
end Go.Proofs.YtcgbdhbdlnimhaaGreat

/- Ints: slices of numbers: whether two are equal, a copy, how long they are. -/
namespace Go.Proofs.YtcgbdhbdlnimhaaGreat
open Go.ChangeShapes Go.WideShapes Go.ChangeAt Go.RowKit

def eqI (a b : Int) : Bool := a == b
theorem eqI_iff (a b : Int) : eqI a b = true ↔ a = b := by simp [eqI]
theorem eqI_ne {a b : Int} : eqI a b = false → (a != b) = true := by unfold eqI; intro h; simpa using h
theorem eqI_eq {a b : Int} : eqI a b = true → (a != b) = false := by unfold eqI; intro h; simpa using h
theorem sSame_c (v u : Value) (l m : List Int) (w : World) (hv : IntsAt w v l) (hu : IntsAt w u m) :
    Calls Tryz.prog 63 #[v, u] w (Gives (.bool (same2 eqI l m)) w) := by
  obtain ⟨a, n, cap, rfl, hn, hl, hm, hc⟩ := hv
  obtain ⟨a', n', cap', rfl, hn', hl', hm', hc'⟩ := hu
  have Hc := Lib.hid hc; clear hc
  have Hc' := Lib.hid hc'; clear hc'
  have Hn := Lib.hid hn; clear hn
  have Hn' := Lib.hid hn'; clear hn'
  by_cases hnm : n = n'
  · subst hnm
    go_enter Tryz.func63, Tryz.ntmps63
    go_wp2
    go_loopw [5] (fun i wr => ∃ k : Nat, i = .int .i64 k ∧ k ≤ n ∧ Hid (same2 eqI l m = same2 eqI (l.drop k) (m.drop k)) ∧ Below w.heap.size w wr) (fun i _ => n - (intOf i).toNat)
    case atStart => exact ⟨0, rfl, Nat.zero_le _, Lib.hid rfl, Below.refl _ _⟩
    case round =>
      obtain ⟨k, rfl, hk, HS, hb⟩ := hrel
      by_cases hlt : k < n
      · obtain ⟨b, o, rfl, hbs, c0⟩ := (Hc.out.below hb) k (by rw [← Hn.out]; exact hlt)
        obtain ⟨b', o', rfl, hbs', d0⟩ := (Hc'.out.below hb) k (by rw [← Hn'.out]; exact hlt)
        have HT := Lib.hid (HS.out.trans (same2_step eqI l m k (by rw [← Hn.out]; exact hlt) (by rw [← Hn'.out]; exact hlt)))
        clear HS
        generalize nth l k = x at *
        generalize nth m k = y at *
        cases hE : eqI x y
        · have HV : Hid (same2 eqI l m = (false && same2 eqI (l.drop (k + 1)) (m.drop (k + 1)))) := Lib.hid (by rw [HT.out, hE])
          have hxy := eqI_ne hE
          clear HT hE
          go_wp2
          go_quiet (fail)
          go_wp2
          go_ret
          exact Gives.bool HV.out (below_drewN hb _)
        · have HV : Hid (same2 eqI l m = (true && same2 eqI (l.drop (k + 1)) (m.drop (k + 1)))) := Lib.hid (by rw [HT.out, hE])
          have hxy := eqI_eq hE
          clear HT hE
          go_wp2
          go_quiet (fail)
          go_wp2
          exact ⟨⟨k + 1, by go_num, hlt, HV, below_drewN hb _⟩, by simp [intOf]; omega⟩
      · go_wp2
        go_ret
        exact Gives.bool (by rw [HS.out, drop_end l k n Hn.out (by omega), drop_end m k n Hn'.out (by omega)]; rfl) hb
  · go_enter Tryz.func63, Tryz.ntmps63
    go_wp2
    go_ret
    exact Gives.bool (same2_len eqI l m (by rw [← Hn.out, ← Hn'.out]; exact hnm)) (Below.refl _ _)
theorem iSame_c (v u : Value) (l m : List Int) (w : World) (hv : IntsAt w v l) (hu : IntsAt w u m) :
    Calls Tryz.prog 64 #[v, u] w (Gives (.bool (same2 eqI l m)) w) := by
  obtain ⟨a, n, cap, rfl, hn, hl, hm, hc⟩ := hv
  obtain ⟨a', n', cap', rfl, hn', hl', hm', hc'⟩ := hu
  have Hc := Lib.hid hc; clear hc
  have Hc' := Lib.hid hc'; clear hc'
  have Hn := Lib.hid hn; clear hn
  have Hn' := Lib.hid hn'; clear hn'
  by_cases hnm : n = n'
  · subst hnm
    go_enter Tryz.func64, Tryz.ntmps64
    go_wp2
    go_loopw [13] (fun i wr => ∃ k : Nat, i = .int .i64 k ∧ k ≤ n ∧ Hid (same2 eqI l m = same2 eqI (l.drop k) (m.drop k)) ∧ Below w.heap.size w wr) (fun i _ => n - (intOf i).toNat)
    case atStart => exact ⟨0, rfl, Nat.zero_le _, Lib.hid rfl, Below.refl _ _⟩
    case round =>
      obtain ⟨k, rfl, hk, HS, hb⟩ := hrel
      by_cases hlt : k < n
      · obtain ⟨b, o, rfl, hbs, c0⟩ := (Hc.out.below hb) k (by rw [← Hn.out]; exact hlt)
        obtain ⟨b', o', rfl, hbs', d0⟩ := (Hc'.out.below hb) k (by rw [← Hn'.out]; exact hlt)
        have HT := Lib.hid (HS.out.trans (same2_step eqI l m k (by rw [← Hn.out]; exact hlt) (by rw [← Hn'.out]; exact hlt)))
        clear HS
        generalize nth l k = x at *
        generalize nth m k = y at *
        cases hE : eqI x y
        · have HV : Hid (same2 eqI l m = (false && same2 eqI (l.drop (k + 1)) (m.drop (k + 1)))) := Lib.hid (by rw [HT.out, hE])
          have hxy := eqI_ne hE
          clear HT hE
          go_wp2
          go_quiet (fail)
          go_wp2
          go_ret
          exact Gives.bool HV.out (below_drewN hb _)
        · have HV : Hid (same2 eqI l m = (true && same2 eqI (l.drop (k + 1)) (m.drop (k + 1)))) := Lib.hid (by rw [HT.out, hE])
          have hxy := eqI_eq hE
          clear HT hE
          go_wp2
          go_quiet (fail)
          go_wp2
          exact ⟨⟨k + 1, by go_num, hlt, HV, below_drewN hb _⟩, by simp [intOf]; omega⟩
      · go_wp2
        go_ret
        exact Gives.bool (by rw [HS.out, drop_end l k n Hn.out (by omega), drop_end m k n Hn'.out (by omega)]; rfl) hb
  · go_enter Tryz.func64, Tryz.ntmps64
    go_wp2
    go_ret
    exact Gives.bool (same2_len eqI l m (by rw [← Hn.out, ← Hn'.out]; exact hnm)) (Below.refl _ _)

def szIntsT (l : List Int) (left : Int) : Int := if left - l.length < 0 then -1 else left - l.length
theorem szIntsT_le (l : List Int) (left : Int) (h : 0 ≤ left) : -1 ≤ szIntsT l left ∧ szIntsT l left ≤ left ∧ (0 ≤ szIntsT l left → (l.length : Int) ≤ left) := by
  unfold szIntsT
  split <;> omega
theorem intInfo : (Tryz.prog.info? 2).map (fun i => (i.zero, i.size, i.bytes)) = some (some (.int .i64 0), 1, 8) := by kernel_rfl
end Go.Proofs.YtcgbdhbdlnimhaaGreat

/- Nest: rows whose elements hold a list of numbers each (attempts, items, lists of patterns). -/
namespace Go.Proofs.YtcgbdhbdlnimhaaGreat
open Go.ChangeShapes Go.WideShapes Go.ChangeAt Go.RowKit

/-- How an element of such a row lies in memory: k cells; its list of numbers lies behind a slice value. -/
structure Shape (α : Type) where
  k : Nat
  pat : α → List Int
  enc : Value → α → List Value
  len : ∀ v x, (enc v x).length = k
  ok : α → Prop

def NestC {α : Type} [Inhabited α] (S : Shape α) (w : World) (a : Option Addr) (l : List α) : Prop :=
  ∀ i, i < l.length → ∃ b o pa pn pc, a = some ⟨b, o, none⟩ ∧ b < w.heap.size ∧ S.ok (nth l i) ∧ IntsAt w (.slice pa pn pc) (S.pat (nth l i)) ∧ ∀ j, j < S.k → w.cell? ⟨b, o + i * S.k + j, none⟩ = (S.enc (.slice pa pn pc) (nth l i))[j]?
def NestAt {α : Type} [Inhabited α] (S : Shape α) (w : World) (v : Value) (l : List α) : Prop := ∃ a n cap, v = .slice a n cap ∧ n = l.length ∧ n ≤ cap ∧ cap ≤ 9223372036854775807 ∧ NestC S w a l
section
variable {α : Type} [Inhabited α] {S : Shape α} {w w' : World}
theorem NestC.below {a : Option Addr} {l : List α} (h : NestC S w a l) (hb : Below w.heap.size w w') : NestC S w' a l := by
  intro i hi
  obtain ⟨b, o, pa, pn, pc, ha, hs, hok, hp, hc⟩ := h i hi
  exact ⟨b, o, pa, pn, pc, ha, Nat.lt_of_lt_of_le hs hb.size, hok, hp.below hb, fun j hj => (hb.cell (p := ⟨b, _, none⟩) hs).trans (hc j hj)⟩
theorem NestAt.below {v : Value} {l : List α} (h : NestAt S w v l) (hb : Below w.heap.size w w') : NestAt S w' v l := by
  obtain ⟨a, n, cap, rfl, h1, h2, h3, hc⟩ := h
  exact ⟨a, n, cap, rfl, h1, h2, h3, hc.below hb⟩

theorem own_mono {base base' : Nat} {e : TypeId} {size : Nat} {v : Value} {n : Nat} {xs : List Value} (h : w.ownsRow base' e size v n xs) (hb : base ≤ base') : w.ownsRow base e size v n xs := by
  obtain ⟨h1, h2⟩ := h
  refine ⟨h1, ?_⟩
  rcases h2 with h2 | ⟨g, cap, cur, hv, hg, r⟩
  · exact .inl h2
  · exact .inr ⟨g, cap, cur, hv, Nat.le_trans hb hg, r⟩

/-- A row of the call's own, its lists in blocks of the call's own, no two in one. -/
def OwnNest (S : Shape α) (T : TypeId) (w : World) (base : Nat) (v : Value) (l : List α) : Prop :=
  ∃ ps : List (Value × α), ps.map (·.2) = l ∧ w.ownsRow base T S.k v l.length (ps.flatMap fun p => S.enc p.1 p.2) ∧
    (∀ p ∈ ps, (∃ pa pn pc, p.1 = .slice pa pn pc) ∧ OwnInts w base p.1 (S.pat p.2) ∧ S.ok p.2 ∧ ∀ g, p.1.ownBlock = some g → v.ownBlock ≠ some g) ∧
    ps.Pairwise (fun p q => ∀ g, p.1.ownBlock = some g → q.1.ownBlock ≠ some g)
theorem nth_map {β : Type} [Inhabited β] (f : β → α) (l : List β) (i : Nat) (h : i < l.length) : nth (l.map f) i = f (nth l i) := by
  rw [nth_eq _ _ (by simpa using h), nth_eq _ _ h]; simp
omit [Inhabited α] in
theorem OwnNest.below {T : TypeId} {base : Nat} {v : Value} {l : List α} (h : OwnNest S T w base v l) (hb : Below w.heap.size w w') : OwnNest S T w' base v l := by
  obtain ⟨ps, h1, h2, h3, h4⟩ := h
  exact ⟨ps, h1, own_below h2 hb, fun p hp => ⟨(h3 p hp).1, own_below (h3 p hp).2.1 hb, (h3 p hp).2.2.1, (h3 p hp).2.2.2⟩, h4⟩
theorem OwnNest.at {T : TypeId} {base : Nat} {v : Value} {l : List α} (h : OwnNest S T w base v l) : NestAt S w v l := by
  obtain ⟨ps, rfl, ho, hp, _⟩ := h
  have hlt := ho.lt
  have hlen : (ps.map (·.2)).length = ps.length := by simp
  rcases ho.2 with ⟨rfl, h0⟩ | ⟨g, cap, cur, rfl, hb, hg, hnc, hcm, hcs, htake⟩
  · exact ⟨none, 0, 0, rfl, h0.symm, Nat.le_refl _, by decide, fun i hi => by omega⟩
  · refine ⟨_, _, _, rfl, rfl, hnc, hcm, fun i hi => ?_⟩
    rw [hlen] at hi
    have hm : nth ps i ∈ ps := mem_nth hi
    obtain ⟨⟨pa, pn, pc, he⟩, hoi, hok, _⟩ := hp _ hm
    refine ⟨g, 0, pa, pn, pc, rfl, (hlt g rfl).2, ?_, ?_, fun j hj => ?_⟩
    · rw [nth_map _ _ _ hi]; exact hok
    · rw [nth_map _ _ _ hi, ← he]; exact OwnInts.at hoi
    · have h1 : i * S.k + j < (ps.map (·.2)).length * S.k := by
        rw [hlen]
        have : (i + 1) * S.k ≤ ps.length * S.k := Nat.mul_le_mul_right _ hi
        rw [Nat.succ_mul] at this; omega
      have h2 := ho.cellAt (i * S.k + j) h1
      rw [Nat.zero_add, h2, nth_map _ _ _ hi, ← he]
      exact flat_at (fun p : Value × α => S.enc p.1 p.2) S.k (fun p => S.len p.1 p.2) ps i hi j hj
omit [Inhabited α] in
theorem nest_more {base : Nat} {ps : List (Value × α)} {v pv : Value} {x : α} {B : Nat}
    (h3 : ∀ p ∈ ps, (∃ pa pn pc, p.1 = .slice pa pn pc) ∧ OwnInts w base p.1 (S.pat p.2) ∧ S.ok p.2 ∧ ∀ g, p.1.ownBlock = some g → v.ownBlock ≠ some g)
    (h4 : ps.Pairwise (fun p q => ∀ g, p.1.ownBlock = some g → q.1.ownBlock ≠ some g))
    (hw : ∀ p ∈ ps, ∀ g, p.1.ownBlock = some g → g < B) (hs : ∃ pa pn pc, pv = .slice pa pn pc) (hi : OwnInts w B pv (S.pat x)) (hbB : base ≤ B) (hok : S.ok x) (hv : ∀ g, pv.ownBlock = some g → v.ownBlock ≠ some g) :
    (∀ p ∈ ps ++ [(pv, x)], (∃ pa pn pc, p.1 = .slice pa pn pc) ∧ OwnInts w base p.1 (S.pat p.2) ∧ S.ok p.2 ∧ ∀ g, p.1.ownBlock = some g → v.ownBlock ≠ some g) ∧
    (ps ++ [(pv, x)]).Pairwise (fun p q => ∀ g, p.1.ownBlock = some g → q.1.ownBlock ≠ some g) := by
  refine ⟨fun p hp => ?_, ?_⟩
  · rcases List.mem_append.1 hp with hp | hp
    · exact h3 p hp
    · obtain rfl := List.mem_singleton.1 hp
      exact ⟨hs, own_mono hi hbB, hok, hv⟩
  · rw [List.pairwise_append]
    refine ⟨h4, List.pairwise_singleton _ _, fun p hp q hq g hg => ?_⟩
    obtain rfl := List.mem_singleton.1 hq
    intro h
    have h1 := hw p hp g hg
    have h2 := (World.ownsRow.lt hi g h).1
    omega
end
end Go.Proofs.YtcgbdhbdlnimhaaGreat

/- Small: the small helpers on numbers of both packages. -/
namespace Go.Proofs.YtcgbdhbdlnimhaaGreat
open Go.ChangeShapes Go.WideShapes Go.ChangeAt Go.RowKit

def inB (n a b : Int) : Bool := decide (a ≤ n) && decide (n ≤ b)
theorem inB_true {n a b : Int} (h : inB n a b = true) : a ≤ n ∧ n ≤ b := by simpa [inB] using h
theorem inB_false {n a b : Int} (h : inB n a b = false) : n < a ∨ b < n := by
  simp only [inB, Bool.and_eq_false_iff, decide_eq_false_iff_not] at h; omega
theorem l00In_c (n a b : Int) (w : World) :
    Calls Tryz.prog 81 #[.int .i64 n, .int .i64 a, .int .i64 b] w (Gives (.bool (inB n a b)) w) := by
  by_cases h1 : a ≤ n <;> by_cases h2 : n ≤ b
  all_goals
    go_enter Tryz.func81, Tryz.ntmps81
    go_wp2
    go_ret
    refine Gives.bool ?_ (Below.refl _ _)
    simp [inB, h1, h2]
theorem between_c (n a b : Int) (w : World) :
    Calls Tryz.prog 79 #[.int .i64 n, .int .i64 a, .int .i64 b] w (Gives (.bool (inB n a b)) w) := by
  by_cases h1 : a ≤ n <;> by_cases h2 : n ≤ b
  all_goals
    go_enter Tryz.func79, Tryz.ntmps79
    go_wp2
    go_ret
    refine Gives.bool ?_ (Below.refl _ _)
    simp [inB, h1, h2]

end Go.Proofs.YtcgbdhbdlnimhaaGreat
