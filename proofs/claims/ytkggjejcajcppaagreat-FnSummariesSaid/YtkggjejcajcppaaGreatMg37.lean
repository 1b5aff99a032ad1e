import Derived.Test.YtkggjejcajcppaaGreatMg36
/- DrawQ2: queries that are drawn: the query itself. -/
namespace Go.Proofs.YtkggjejcajcppaaGreat
open Go.ChangeShapes Go.WideShapes Go.ChangeAt Go.RowKit

/-- A query whose lists lie in blocks from base on, and not in block X. -/
structure QD (w : World) (base X : Nat) (q : Query) (y z : Value) : Prop where
  ys : ∃ a n c, y = .slice a n c
  zs : ∃ a n c, z = .slice a n c
  need : IntsAt w y q.need
  avoid : IntsAt w z q.avoid
  fy : 0 < q.need.length → ∀ b' o m c, y = .slice (some ⟨b', o, none⟩) m c → base ≤ b' ∧ b' ≠ X
  fz : 0 < q.avoid.length → ∀ b' o m c, z = .slice (some ⟨b', o, none⟩) m c → base ≤ b' ∧ b' ≠ X
  pe : -1 ≤ q.period ∧ q.period ≤ 20
  pr : -1 ≤ q.props ∧ q.props ≤ 20
  hi : -1 ≤ q.high ∧ q.high ≤ 20
theorem IntsAt.setO {w : World} {v : Value} {l : List Int} (h : IntsAt w v l) {p : Addr} (hp : 0 < l.length → ∀ b' o m c, v = .slice (some ⟨b', o, none⟩) m c → b' ≠ p.block) (u : Value) : IntsAt (w.setCell p u) v l := by
  obtain ⟨a, m, c, rfl, h1, h2, h3, hc⟩ := h
  rcases Nat.eq_zero_or_pos l.length with h0 | h0
  · exact ⟨a, m, c, rfl, h1, h2, h3, fun i hi => by omega⟩
  · exact ⟨a, m, c, rfl, h1, h2, h3, hc.set (fun b' o e => hp h0 b' o m c (by rw [e])) u⟩
theorem IntsAt.lt {w : World} {v : Value} {l : List Int} (h : IntsAt w v l) (h0 : 0 < l.length) : ∀ b' o m c, v = .slice (some ⟨b', o, none⟩) m c → b' < w.heap.size := by
  rintro b' o m c rfl
  obtain ⟨a, m', c', e, _, _, _, hc⟩ := h
  injection e with e1 e2 e3
  subst e1
  obtain ⟨b2, o2, e, hs, _⟩ := hc 0 h0
  injection e with e
  injection e with e1 e2
  omega
section
variable {w w' : World} {base X b n : Nat} {q : Query} {y z : Value}
theorem QD.below (h : QD w base X q y z) (hb : Below w.heap.size w w') : QD w' base X q y z := ⟨h.ys, h.zs, h.need.below hb, h.avoid.below hb, h.fy, h.fz, h.pe, h.pr, h.hi⟩
theorem QD.drew (h : QD w base X q y z) (hd : Drew b n w w') (hb : b < base) : QD w' base X q y z :=
  ⟨h.ys, h.zs, h.need.drew hd (fun h0 b' o m c e => by have := (h.fy h0 b' o m c e).1; omega), h.avoid.drew hd (fun h0 b' o m c e => by have := (h.fz h0 b' o m c e).1; omega), h.fy, h.fz, h.pe, h.pr, h.hi⟩
theorem QD.mono {base' X' : Nat} (h : QD w base' X' q y z) (hb : base ≤ base') (hX : X < base') : QD w base X q y z :=
  ⟨h.ys, h.zs, h.need, h.avoid, fun h0 b' o m c e => by have := (h.fy h0 b' o m c e).1; omega, fun h0 b' o m c e => by have := (h.fz h0 b' o m c e).1; omega, h.pe, h.pr, h.hi⟩
/-- A new block is none of theirs. -/
theorem QD.fresh {X' : Nat} (h : QD w base X' q y z) (hX : w.heap.size ≤ X) : QD w base X q y z :=
  ⟨h.ys, h.zs, h.need, h.avoid, fun h0 b' o m c e => by have := (h.fy h0 b' o m c e).1; have := h.need.lt h0 b' o m c e; omega, fun h0 b' o m c e => by have := (h.fz h0 b' o m c e).1; have := h.avoid.lt h0 b' o m c e; omega, h.pe, h.pr, h.hi⟩
theorem QD.set (h : QD w base X q y z) {c' i' : Nat} (hc : c' < base) (u : Value) : QD (w.setCell ⟨c', i', none⟩ u) base X q y z :=
  ⟨h.ys, h.zs, h.need.setO (fun h0 b' o m c e => by have := (h.fy h0 b' o m c e).1; show b' ≠ c'; omega) u, h.avoid.setO (fun h0 b' o m c e => by have := (h.fz h0 b' o m c e).1; show b' ≠ c'; omega) u, h.fy, h.fz, h.pe, h.pr, h.hi⟩
theorem QD.putN (h : QD w base X q y z) {v : Value} {l : List Int} (hv : IntsAt w v l) (hf : 0 < l.length → ∀ b' o m c, v = .slice (some ⟨b', o, none⟩) m c → base ≤ b' ∧ b' ≠ X) : QD (w.setCell ⟨X, 3, none⟩ v) base X ⟨q.period, q.props, q.high, l, q.avoid, q.canonical⟩ v z :=
  ⟨by obtain ⟨a, m, c, rfl, _⟩ := hv; exact ⟨a, m, c, rfl⟩, h.zs, hv.setO (fun h0 b' o m c e => (hf h0 b' o m c e).2) _, h.avoid.setO (fun h0 b' o m c e => (h.fz h0 b' o m c e).2) _, hf, h.fz, h.pe, h.pr, h.hi⟩
theorem QD.putA (h : QD w base X q y z) {v : Value} {l : List Int} (hv : IntsAt w v l) (hf : 0 < l.length → ∀ b' o m c, v = .slice (some ⟨b', o, none⟩) m c → base ≤ b' ∧ b' ≠ X) : QD (w.setCell ⟨X, 4, none⟩ v) base X ⟨q.period, q.props, q.high, q.need, l, q.canonical⟩ y v :=
  ⟨h.ys, by obtain ⟨a, m, c, rfl, _⟩ := hv; exact ⟨a, m, c, rfl⟩, h.need.setO (fun h0 b' o m c e => (h.fy h0 b' o m c e).2) _, hv.setO (fun h0 b' o m c e => (hf h0 b' o m c e).2) _, h.fy, hf, h.pe, h.pr, h.hi⟩
theorem QD.putI (h : QD w base X q y z) {i : Nat} (u : Value) {q' : Query} (e1 : q'.need = q.need) (e2 : q'.avoid = q.avoid) (pe : -1 ≤ q'.period ∧ q'.period ≤ 20) (pr : -1 ≤ q'.props ∧ q'.props ≤ 20) (hi : -1 ≤ q'.high ∧ q'.high ≤ 20) : QD (w.setCell ⟨X, i, none⟩ u) base X q' y z :=
  ⟨h.ys, h.zs, by rw [e1]; exact h.need.setO (fun h0 b' o m c e => (h.fy h0 b' o m c e).2) _, by rw [e2]; exact h.avoid.setO (fun h0 b' o m c e => (h.fz h0 b' o m c e).2) _, by rw [e1]; exact h.fy, by rw [e2]; exact h.fz, pe, pr, hi⟩
theorem Drew.setO (hd : Drew b n w w') (hbw : b < w.heap.size) {c' i' : Nat} (hp : w.heap.size ≤ c') (u : Value) : Drew b n w (w'.setCell ⟨c', i', none⟩ u) := by
  obtain ⟨⟨a, m, c, cs, k, sd, h1, h2, h3, h4, h5, h6, h7, h8⟩, ht⟩ := hd
  refine ⟨⟨a, m, c, cs, k, sd, h1, h2, h3, h4.set_other (c := c') (by omega) _ _, h5.set (p := ⟨c', i', none⟩) (fun h0 b' o e => by have := h7 h0 b' o e; show b' ≠ c'; omega) u, h6, h7, h8⟩, ht.os, ht.tape, ht.output, by simpa [World.setCell] using ht.size, fun i hi ho => ?_⟩
  rw [Below.heap_setCell w' ⟨c', i', none⟩ u i (by show i ≠ c'; omega)]
  exact ht.block i hi ho
end
def DrawsQ (b n : Nat) (w : World) (e : Ending) (w' : World) : Prop :=
  ∃ q a1 n1 c1 a2 n2 c2, e = .returned (.agg #[.int .i64 q.period, .int .i64 q.props, .int .i64 q.high, .slice a1 n1 c1, .slice a2 n2 c2, .bool q.canonical]) ∧ QD w' w.heap.size w.heap.size q (.slice a1 n1 c1) (.slice a2 n2 c2) ∧ Drew b n w w'
end Go.Proofs.YtkggjejcajcppaaGreat
