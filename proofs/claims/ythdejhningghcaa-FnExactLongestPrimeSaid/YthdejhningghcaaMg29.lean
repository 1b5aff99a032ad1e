import Derived.Test.YthdejhningghcaaMg28
/- IntssD: lists of lists of numbers in memory. -/
namespace Go.Proofs.Ythdejhningghcaa
open Go.ChangeShapes Go.WideShapes Go.ChangeAt Go.RowKit

def intssS : Shape (List Int) := ⟨1, id, fun v _ => [v], fun _ _ => rfl, fun _ => True⟩
def IntssAt (w : World) (v : Value) (l : List (List Int)) : Prop := NestAt intssS w v l
def OwnIntss (w : World) (base : Nat) (v : Value) (l : List (List Int)) : Prop := OwnNest intssS 35 w base v l
theorem OwnIntss.at {w : World} {base : Nat} {v : Value} {l : List (List Int)} (h : OwnIntss w base v l) : IntssAt w v l := OwnNest.at h

theorem own_off {w : World} {base : Nat} {e : TypeId} {size : Nat} {v : Value} {n : Nat} {xs : List Value} (h : w.ownsRow base e size v n xs) (p : Addr) (hp : v.ownBlock ≠ some p.block) (u : Value) : (w.setCell p u).ownsRow base e size v n xs :=
  own_turned (lo := p.block) (hi := p.block + 1) h (Turned.set (Turned.refl _) (Nat.le_refl _) (Nat.lt_succ_self _) u) (fun g hg => by
    have : g ≠ p.block := fun e => hp (by rw [hg, e])
    omega)
/-- A list of the call's own, cut. -/
theorem own_cut {w : World} {base n c k : Nat} {a : Option Addr} {l : List Int} (h : OwnInts w base (.slice a n c) l) (hk : k ≤ l.length) (ha : a ≠ none) : OwnInts w base (.slice a k c) (l.take k) := by
  obtain ⟨h1, h2⟩ := h
  refine ⟨by simp, ?_⟩
  rcases h2 with ⟨e, _⟩ | ⟨g, cap, cur, e, hb, hg, hnc, hcm, hcs, htake⟩
  · injection e with e; exact absurd e ha
  · injection e with e1 e2 e3
    subst e1 e2 e3
    have hlk : (l.take k).length = k := by rw [List.length_take]; omega
    refine .inr ⟨g, c, cur, by rw [hlk], hb, hg, by rw [hlk]; omega, hcm, hcs, ?_⟩
    rw [hlk]
    have h3 := congrArg (fun x : List Value => x.take (k * 1)) htake
    simp only [List.take_take] at h3
    rw [Nat.min_eq_left (by omega)] at h3
    rw [h3, List.map_take, Nat.mul_one]

def GivesIntssC (l : List (List Int)) (code : Int) (w : World) (e : Ending) (w' : World) : Prop := ∃ a n c, e = .returned (.tuple #[.slice a n c, .int .i64 code]) ∧ OwnIntss w' w.heap.size (.slice a n c) l ∧ Below w.heap.size w w'
theorem intss_none (w : World) (base : Nat) : OwnIntss w base (.slice none 0 0) [] := ⟨[], rfl, World.ownsRow_nil _ _ _ _, fun _ h => absurd h List.not_mem_nil, List.Pairwise.nil⟩
theorem GivesIntssC.none {l : List (List Int)} {c1 c2 : Int} {w w' : World} (h : l = []) (hc : c1 = c2) (hb : Below w.heap.size w w') : GivesIntssC l c1 w (.returned (.tuple #[.slice Option.none 0 0, .int .i64 c2])) w' :=
  ⟨Option.none, 0, 0, by rw [hc], by rw [h]; exact intss_none _ _, hb⟩
theorem GivesIntssC.mk {l : List (List Int)} {c1 c2 : Int} {a : Option Addr} {n c : Nat} {w w' : World} (hc : c1 = c2) (ho : OwnIntss w' w.heap.size (.slice a n c) l) (hb : Below w.heap.size w w') : GivesIntssC l c1 w (.returned (.tuple #[.slice a n c, .int .i64 c2])) w' :=
  ⟨a, n, c, by rw [hc], ho, hb⟩
theorem OwnIntss.mono {w : World} {base base' : Nat} {v : Value} {l : List (List Int)} (h : OwnIntss w base' v l) (hb : base ≤ base') : OwnIntss w base v l := by
  obtain ⟨ps, h1, h2, h3, h4⟩ := h
  exact ⟨ps, h1, own_mono h2 hb, fun p hp => ⟨(h3 p hp).1, own_mono (h3 p hp).2.1 hb, (h3 p hp).2.2.1, (h3 p hp).2.2.2⟩, h4⟩
theorem intss_cells {w : World} {a : Option Addr} {l : List (List Int)} (h : NestC intssS w a l) (k : Nat) (hk : k < l.length) :
    ∃ b o pa pn pc, a = some ⟨b, o, none⟩ ∧ b < w.heap.size ∧ IntsAt w (.slice pa pn pc) (nth l k) ∧ w.cell? ⟨b, o + k, none⟩ = some (.slice pa pn pc) := by
  obtain ⟨b, o, pa, pn, pc, ha, hb, hok, hp, hc⟩ := h k hk
  have h0 := hc 0 (by decide)
  refine ⟨b, o, pa, pn, pc, ha, hb, hp, ?_⟩
  rw [show o + k * intssS.k + 0 = o + k by simp [intssS]] at h0
  exact h0
theorem eqIs_iff (a b : List Int) : same2 eqI a b = true ↔ a = b := same2_iff eqI eqI_iff a b
end Go.Proofs.Ythdejhningghcaa
