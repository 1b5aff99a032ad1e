import Derived.Test.YtcgbdhbdlnimhaaGreatMg19
/- DrawQ2: queries that are drawn: the query itself. -/
namespace Go.Proofs.YtcgbdhbdlnimhaaGreat
open Go.ChangeShapes Go.WideShapes Go.ChangeAt Go.RowKit

/-- A query whose lists lie in blocks from base on, and not in block X. -/
structure QD (w : World) (base X : Nat) (q : Query) (y z : Value) : Prop where
  ys : ∃ a n c, y = .slice a n c
  zs : ∃ a n c, z = .slice a n c
  need : IntsAt w y q.need
  avoid : IntsAt w z q.avoid
  fy : 0 < q.need.length → ∀ b' o m c, y = .slice (some ⟨b', o, none⟩) m c → base ≤ b' ∧ b' ≠ X
  fz : 0 < q.avoid.length → ∀ b' o m c, z = .slice (some ⟨b', o, none⟩) m c → base ≤ b' ∧ b' ≠ X
  pe : -1 ≤ q.period ∧ q.period ≤ 20
  pr : -1 ≤ q.props ∧ q.props ≤ 20
  hi : -1 ≤ q.high ∧ q.high ≤ 20
theorem IntsAt.setO {w : World} {v : Value} {l : List Int} (h : IntsAt w v l) {p : Addr} (hp : 0 < l.length → ∀ b' o m c, v = .slice (some ⟨b', o, none⟩) m c → b' ≠ p.block) (u : Value) : IntsAt (w.setCell p u) v l := by
  obtain ⟨a, m, c, rfl, h1, h2, h3, hc⟩ := h
  rcases Nat.eq_zero_or_pos l.length with h0 | h0
  · exact ⟨a, m, c, rfl, h1, h2, h3, fun i hi => by omega⟩
  · exact ⟨a, m, c, rfl, h1, h2, h3, hc.set (fun b' o e => hp h0 b' o m c (by rw [e])) u⟩
theorem IntsAt.lt {w : World} {v : Value} {l : List Int} (h : IntsAt w v l) (h0 : 0 < l.length) : ∀ b' o m c, v = .slice (some ⟨b', o, none⟩) m c → b' < w.heap.size := by
  rintro b' o m c rfl
  obtain ⟨a, m', c', e, _, _, _, hc⟩ := h
  injection e with e1 e2 e3
  subst e1
  obtain ⟨b2, o2, e, hs, _⟩ := hc 0 h0
  injection e with e
  injection e with e1 e2
  omega
section
variable {w w' : World} {base X b n : Nat} {q : Query} {y z : Value}
theorem QD.below (h : QD w base X q y z) (hb : Below w.heap.size w w') : QD w' base X q y z := ⟨h.ys, h.zs, h.need.below hb, h.avoid.below hb, h.fy, h.fz, h.pe, h.pr, h.hi⟩
theorem QD.drew (h : QD w base X q y z) (hd : Drew b n w w') (hb : b < base) : QD w' base X q y z :=
  ⟨h.ys, h.zs, h.need.drew hd (fun h0 b' o m c e => by have := (h.fy h0 b' o m c e).1; omega), h.avoid.drew hd (fun h0 b' o m c e => by have := (h.fz h0 b' o m c e).1; omega), h.fy, h.fz, h.pe, h.pr, h.hi⟩
theorem QD.mono {base' X' : Nat} (h : QD w base' X' q y z) (hb : base ≤ base') (hX : X < base') : QD w base X q y z :=
  ⟨h.ys, h.zs, h.need, h.avoid, fun h0 b' o m c e => by have := (h.fy h0 b' o m c e).1; omega, fun h0 b' o m c e => by have := (h.fz h0 b' o m c e).1; omega, h.pe, h.pr, h.hi⟩
/-- A new block is none of theirs. -/
theorem QD.fresh {X' : Nat} (h : QD w base X' q y z) (hX : w.heap.size ≤ X) : QD w base X q y z :=
  ⟨h.ys, h.zs, h.need, h.avoid, fun h0 b' o m c e => by have := (h.fy h0 b' o m c e).1; have := h.need.lt h0 b' o m c e; omega, fun h0 b' o m c e => by have := (h.fz h0 b' o m c e).1; have := h.avoid.lt h0 b' o m c e; omega, h.pe, h.pr, h.hi⟩
theorem QD.set (h : QD w base X q y z) {c' i' : Nat} (hc : c' < base) (u : Value) : QD (w.setCell ⟨c', i', none⟩ u) base X q y z :=
  ⟨h.ys, h.zs, h.need.setO (fun h0 b' o m c e => by have := (h.fy h0 b' o m c e).1; show b' ≠ c'; omega) u, h.avoid.setO (fun h0 b' o m c e => by have := (h.fz h0 b' o m c e).1; show b' ≠ c'; omega) u, h.fy, h.fz, h.pe, h.pr, h.hi⟩
theorem QD.putN (h : QD w base X q y z) {v : Value} {l : List Int} (hv : IntsAt w v l) (hf : 0 < l.length → ∀ b' o m c, v = .slice (some ⟨b', o, none⟩) m c → base ≤ b' ∧ b' ≠ X) : QD (w.setCell ⟨X, 3, none⟩ v) base X ⟨q.period, q.props, q.high, l, q.avoid, q.canonical⟩ v z :=
  ⟨by obtain ⟨a, m, c, rfl, _⟩ := hv; exact ⟨a, m, c, rfl⟩, h.zs, hv.setO (fun h0 b' o m c e => (hf h0 b' o m c e).2) _, h.avoid.setO (fun h0 b' o m c e => (h.fz h0 b' o m c e).2) _, hf, h.fz, h.pe, h.pr, h.hi⟩
theorem QD.putA (h : QD w base X q y z) {v : Value} {l : List Int} (hv : IntsAt w v l) (hf : 0 < l.length → ∀ b' o m c, v = .slice (some ⟨b', o, none⟩) m c → base ≤ b' ∧ b' ≠ X) : QD (w.setCell ⟨X, 4, none⟩ v) base X ⟨q.period, q.props, q.high, q.need, l, q.canonical⟩ y v :=
  ⟨h.ys, by obtain ⟨a, m, c, rfl, _⟩ := hv; exact ⟨a, m, c, rfl⟩, h.need.setO (fun h0 b' o m c e => (h.fy h0 b' o m c e).2) _, hv.setO (fun h0 b' o m c e => (hf h0 b' o m c e).2) _, h.fy, hf, h.pe, h.pr, h.hi⟩
theorem QD.putI (h : QD w base X q y z) {i : Nat} (u : Value) {q' : Query} (e1 : q'.need = q.need) (e2 : q'.avoid = q.avoid) (pe : -1 ≤ q'.period ∧ q'.period ≤ 20) (pr : -1 ≤ q'.props ∧ q'.props ≤ 20) (hi : -1 ≤ q'.high ∧ q'.high ≤ 20) : QD (w.setCell ⟨X, i, none⟩ u) base X q' y z :=
  ⟨h.ys, h.zs, by rw [e1]; exact h.need.setO (fun h0 b' o m c e => (h.fy h0 b' o m c e).2) _, by rw [e2]; exact h.avoid.setO (fun h0 b' o m c e => (h.fz h0 b' o m c e).2) _, by rw [e1]; exact h.fy, by rw [e2]; exact h.fz, pe, pr, hi⟩
theorem Drew.setO (hd : Drew b n w w') (hbw : b < w.heap.size) {c' i' : Nat} (hp : w.heap.size ≤ c') (u : Value) : Drew b n w (w'.setCell ⟨c', i', none⟩ u) := by
  obtain ⟨⟨a, m, c, cs, k, sd, h1, h2, h3, h4, h5, h6, h7, h8⟩, ht⟩ := hd
  refine ⟨⟨a, m, c, cs, k, sd, h1, h2, h3, h4.set_other (c := c') (by omega) _ _, h5.set (p := ⟨c', i', none⟩) (fun h0 b' o e => by have := h7 h0 b' o e; show b' ≠ c'; omega) u, h6, h7, h8⟩, ht.os, ht.tape, ht.output, by simpa [World.setCell] using ht.size, fun i hi ho => ?_⟩
  rw [Below.heap_setCell w' ⟨c', i', none⟩ u i (by show i ≠ c'; omega)]
  exact ht.block i hi ho
end
def DrawsQ (b n : Nat) (w : World) (e : Ending) (w' : World) : Prop :=
  ∃ q a1 n1 c1 a2 n2 c2, e = .returned (.agg #[.int .i64 q.period, .int .i64 q.props, .int .i64 q.high, .slice a1 n1 c1, .slice a2 n2 c2, .bool q.canonical]) ∧ QD w' w.heap.size w.heap.size q (.slice a1 n1 c1) (.slice a2 n2 c2) ∧ Drew b n w w'
/-- A query whose text is short. -/
def TxD (pe pr hi : Int) (ne av : List Int) : Prop := (0 ≤ pe ∧ pe ≤ 15) ∧ (0 ≤ pr ∧ pr ≤ 15) ∧ (0 ≤ hi ∧ hi ≤ 15) ∧ ((∀ u ∈ ne, 0 ≤ u ∧ u ≤ 15) ∧ ne.length ≤ 16) ∧ ((∀ u ∈ av, 0 ≤ u ∧ u ≤ 15) ∧ av.length ≤ 16)
def DrawsQS (b n : Nat) (w : World) (e : Ending) (w' : World) : Prop :=
  ∃ q a1 n1 c1 a2 n2 c2, e = .returned (.agg #[.int .i64 q.period, .int .i64 q.props, .int .i64 q.high, .slice a1 n1 c1, .slice a2 n2 c2, .bool q.canonical]) ∧ (QD w' w.heap.size w.heap.size q (.slice a1 n1 c1) (.slice a2 n2 c2) ∧ TxD q.period q.props q.high q.need q.avoid) ∧ Drew b n w w'
end Go.Proofs.YtcgbdhbdlnimhaaGreat

/- DrewK: what is kept of a source when rows behind it are written. -/
namespace Go.Proofs.YtcgbdhbdlnimhaaGreat
open Go.ChangeShapes Go.WideShapes Go.ChangeAt Go.RowKit

theorem SrcAt.belowK {w w' : World} {b n K : Nat} (h : SrcAt w b n) (k : Below K w w') (hb : b < K) : SrcAt w' b n := by
  obtain ⟨a, m, c, cs, kk, sd, h1, h2, h3, h4, h5, h6, h7, h8⟩ := h
  refine ⟨a, m, c, cs, kk, sd, h1, h2, h3, ⟨Nat.lt_of_lt_of_le h4.1 k.size, fun j => ?_, fun j => ?_⟩, fun i hi => ?_, h6, h7, h8⟩
  · exact (World.cell?_of_block (a := ⟨b, j, none⟩) (k.block b hb)).trans (h4.2.1 j)
  · exact (World.frozen?_of_block (a := ⟨b, j, none⟩) (k.block b hb)).trans (h4.2.2 j)
  · obtain ⟨b', o, rfl, hs, c0⟩ := h5 i hi
    have := h7 (by omega) b' o rfl
    exact ⟨b', o, rfl, Nat.lt_of_lt_of_le hs k.size, (World.cell?_of_block (a := ⟨b', _, none⟩) (k.block b' (by omega))).trans c0⟩
/-- Rows made behind the source have been written. -/
theorem Drew.thenK {b n : Nat} {w w1 w2 : World} (h : Drew b n w w1) (k : Below w.heap.size w1 w2) (hb : b < w.heap.size) : Drew b n w w2 :=
  ⟨h.1.belowK k hb, ⟨k.os.trans h.2.os, k.tape.trans h.2.tape, k.output.trans h.2.output, Nat.le_trans h.2.size k.size, fun i hi ho => (k.block i hi).trans (h.2.block i hi ho)⟩⟩
theorem ownSet {w : World} {base g n cap : Nat} {l : List Int} (h : OwnInts w base (.slice (some ⟨g, 0, none⟩) n cap) l) (i : Nat) (x : Int) : OwnInts (w.setCell ⟨g, i, none⟩ (.int .i64 x)) base (.slice (some ⟨g, 0, none⟩) n cap) (l.set i x) := by
  unfold OwnInts at *
  have hn : n = l.length := by
    rcases h.2 with ⟨he, h0⟩ | ⟨g', cap', cur, he, _⟩
    · cases he
    · injection he
  subst hn
  rw [List.length_set, List.map_set]
  exact (h.stored i _).1
theorem ownCell {w : World} {base g n cap : Nat} {l : List Int} (h : OwnInts w base (.slice (some ⟨g, 0, none⟩) n cap) l) (i : Nat) (hi : i < l.length) : w.cell? ⟨g, i, none⟩ = some (.int .i64 (nth l i)) ∧ w.frozen? ⟨g, i, none⟩ = false := by
  have hn : n = l.length := by
    rcases h.2 with ⟨he, h0⟩ | ⟨g', cap', cur, he, _⟩
    · cases he
    · injection he
  subst hn
  have h1 := World.ownsRow.cellAt h i (by omega)
  rw [List.getElem?_map, nth_get? l i hi] at h1
  exact ⟨h1, World.ownsRow.frozenAt h i⟩
theorem ownHead {w : World} {base n c : Nat} {a : Option Addr} {l : List Int} (h : OwnInts w base (.slice a n c) l) : n = l.length ∧ (0 < n → ∃ g, a = some ⟨g, 0, none⟩ ∧ base ≤ g) := by
  rcases h.2 with ⟨he, h0⟩ | ⟨g, cap, cur, he, hb, _⟩
  · injection he with _ h1 _
    have := h.1
    simp at this
    exact ⟨by omega, fun h2 => by omega⟩
  · injection he with h1 h2 _
    exact ⟨h2, fun _ => ⟨g, h1, hb⟩⟩
theorem ints_lit {w : World} (xs : List Int) (k : Nat) (hk : k = xs.length) (b : Nat) (hb : b = w.heap.size) (h1 : k ≤ 1000) : IntsAt (w.alloc (.cells (xs.map (Value.int .i64)).toArray 2)) (.slice (some ⟨b, 0, none⟩) k k) xs := by
  subst hb hk
  refine ⟨some ⟨w.heap.size, 0, none⟩, _, _, rfl, rfl, Nat.le_refl _, by omega, fun i hi => ⟨w.heap.size, 0, rfl, by simp, ?_⟩⟩
  rw [World.cell?_alloc_at _ _ _ _ rfl]
  simp [nth_get? xs i hi]
/-- How long a slice is: for measures. -/
def lenOf : Value → Nat
  | .slice _ n _ => n
  | _ => 0
end Go.Proofs.YtcgbdhbdlnimhaaGreat
