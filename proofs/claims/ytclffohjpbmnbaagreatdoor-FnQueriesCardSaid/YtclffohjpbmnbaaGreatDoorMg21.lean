import Derived.Test.YtclffohjpbmnbaaGreatDoorMg20
/- IntssD: lists of lists of numbers in memory. -/
namespace Go.Proofs.YtclffohjpbmnbaaGreatDoor
open Go.ChangeShapes Go.WideShapes Go.ChangeAt Go.RowKit

def intssS : Shape (List Int) := ⟨1, id, fun v _ => [v], fun _ _ => rfl, fun _ => True⟩
def IntssAt (w : World) (v : Value) (l : List (List Int)) : Prop := NestAt intssS w v l
def OwnIntss (w : World) (base : Nat) (v : Value) (l : List (List Int)) : Prop := OwnNest intssS 24 w base v l
theorem OwnIntss.at {w : World} {base : Nat} {v : Value} {l : List (List Int)} (h : OwnIntss w base v l) : IntssAt w v l := OwnNest.at h

theorem own_off {w : World} {base : Nat} {e : TypeId} {size : Nat} {v : Value} {n : Nat} {xs : List Value} (h : w.ownsRow base e size v n xs) (p : Addr) (hp : v.ownBlock ≠ some p.block) (u : Value) : (w.setCell p u).ownsRow base e size v n xs :=
  own_turned (lo := p.block) (hi := p.block + 1) h (Turned.set (Turned.refl _) (Nat.le_refl _) (Nat.lt_succ_self _) u) (fun g hg => by
    have : g ≠ p.block := fun e => hp (by rw [hg, e])
    omega)
/-- A list of the call's own, cut. -/
theorem own_cut {w : World} {base n c k : Nat} {a : Option Addr} {l : List Int} (h : OwnInts w base (.slice a n c) l) (hk : k ≤ l.length) (ha : a ≠ none) : OwnInts w base (.slice a k c) (l.take k) := by
  obtain ⟨h1, h2⟩ := h
  refine ⟨by simp, ?_⟩
  rcases h2 with ⟨e, _⟩ | ⟨g, cap, cur, e, hb, hg, hnc, hcm, hcs, htake⟩
  · injection e with e; exact absurd e ha
  · injection e with e1 e2 e3
    subst e1 e2 e3
    have hlk : (l.take k).length = k := by rw [List.length_take]; omega
    refine .inr ⟨g, c, cur, by rw [hlk], hb, hg, by rw [hlk]; omega, hcm, hcs, ?_⟩
    rw [hlk]
    have h3 := congrArg (fun x : List Value => x.take (k * 1)) htake
    simp only [List.take_take] at h3
    rw [Nat.min_eq_left (by omega)] at h3
    rw [h3, List.map_take, Nat.mul_one]

def GivesIntssC (l : List (List Int)) (code : Int) (w : World) (e : Ending) (w' : World) : Prop := ∃ a n c, e = .returned (.tuple #[.slice a n c, .int .i64 code]) ∧ OwnIntss w' w.heap.size (.slice a n c) l ∧ Below w.heap.size w w'
theorem intss_none (w : World) (base : Nat) : OwnIntss w base (.slice none 0 0) [] := ⟨[], rfl, World.ownsRow_nil _ _ _ _, fun _ h => absurd h List.not_mem_nil, List.Pairwise.nil⟩
theorem GivesIntssC.none {l : List (List Int)} {c1 c2 : Int} {w w' : World} (h : l = []) (hc : c1 = c2) (hb : Below w.heap.size w w') : GivesIntssC l c1 w (.returned (.tuple #[.slice Option.none 0 0, .int .i64 c2])) w' :=
  ⟨Option.none, 0, 0, by rw [hc], by rw [h]; exact intss_none _ _, hb⟩
theorem GivesIntssC.mk {l : List (List Int)} {c1 c2 : Int} {a : Option Addr} {n c : Nat} {w w' : World} (hc : c1 = c2) (ho : OwnIntss w' w.heap.size (.slice a n c) l) (hb : Below w.heap.size w w') : GivesIntssC l c1 w (.returned (.tuple #[.slice a n c, .int .i64 c2])) w' :=
  ⟨a, n, c, by rw [hc], ho, hb⟩
theorem OwnIntss.mono {w : World} {base base' : Nat} {v : Value} {l : List (List Int)} (h : OwnIntss w base' v l) (hb : base ≤ base') : OwnIntss w base v l := by
  obtain ⟨ps, h1, h2, h3, h4⟩ := h
  exact ⟨ps, h1, own_mono h2 hb, fun p hp => ⟨(h3 p hp).1, own_mono (h3 p hp).2.1 hb, (h3 p hp).2.2.1, (h3 p hp).2.2.2⟩, h4⟩
theorem intss_cells {w : World} {a : Option Addr} {l : List (List Int)} (h : NestC intssS w a l) (k : Nat) (hk : k < l.length) :
    ∃ b o pa pn pc, a = some ⟨b, o, none⟩ ∧ b < w.heap.size ∧ IntsAt w (.slice pa pn pc) (nth l k) ∧ w.cell? ⟨b, o + k, none⟩ = some (.slice pa pn pc) := by
  obtain ⟨b, o, pa, pn, pc, ha, hb, hok, hp, hc⟩ := h k hk
  have h0 := hc 0 (by decide)
  refine ⟨b, o, pa, pn, pc, ha, hb, hp, ?_⟩
  rw [show o + k * intssS.k + 0 = o + k by simp [intssS]] at h0
  exact h0
theorem eqIs_iff (a b : List Int) : same2 eqI a b = true ↔ a = b := same2_iff eqI eqI_iff a b
end Go.Proofs.YtclffohjpbmnbaaGreatDoor

/- MarkSS: slices of lists of numbers that the law marks, their marks held; whether two of them are the same. -/
namespace Go.Proofs.YtclffohjpbmnbaaGreatDoor
open Go.ChangeShapes Go.WideShapes Go.ChangeAt Go.RowKit

def intssM : List (List Int) → Nat
  | [] => 0
  | x :: l => x.length + intssM l
def intssMarks : List (List Int) → Nat → List (List Int)
  | [], _ => []
  | x :: l, k => intMarks x.length k :: intssMarks l (k + x.length)
theorem intssMarks_append : ∀ (l m : List (List Int)) (k : Nat), intssMarks (l ++ m) k = intssMarks l k ++ intssMarks m (k + intssM l)
  | [], m, k => by simp [intssMarks, intssM]
  | x :: l, m, k => by simp [intssMarks, intssM, intssMarks_append l m, Nat.add_assoc]
theorem intssM_append : ∀ (l m : List (List Int)), intssM (l ++ m) = intssM l + intssM m
  | [], m => by simp [intssM]
  | x :: l, m => by simp [intssM, intssM_append l m, Nat.add_assoc]
theorem intssMarks_len : ∀ (l : List (List Int)) (k : Nat), (intssMarks l k).length = l.length
  | [], _ => rfl
  | x :: l, k => by simp [intssMarks, intssMarks_len l]
def InIntss (w : World) (lo hi : Nat) (v : Value) (l : List (List Int)) : Prop := InNest intssS 24 w lo hi v l
section
variable {w w' : World} {lo hi : Nat} {v : Value} {l : List (List Int)}
theorem InIntss.of (h : OwnIntss w lo v l) : InIntss w lo w.heap.size v l := InNest.of h
theorem InIntss.below (h : InIntss w lo hi v l) (hb : Below w.heap.size w w') : InIntss w' lo hi v l := InNest.below h hb
theorem InIntss.turned {lo' hi' : Nat} (h : InIntss w lo hi v l) (ht : Turned lo' hi' w w') (hd : hi ≤ lo' ∨ hi' ≤ lo) : InIntss w' lo hi v l := InNest.turned h ht hd
theorem InIntss.at (h : InIntss w lo hi v l) : IntssAt w v l := InNest.at h
end
theorem intssMarks_step (l : List (List Int)) (k j : Nat) (h : j < l.length) : intssMarks (l.take (j + 1)) k = intssMarks (l.take j) k ++ [intMarks (nth l j).length (k + intssM (l.take j))] := by
  rw [take_nth l j h, intssMarks_append]; rfl
theorem intssM_step (l : List (List Int)) (j : Nat) (h : j < l.length) : intssM (l.take (j + 1)) = intssM (l.take j) + (nth l j).length := by
  rw [take_nth l j h, intssM_append]; simp [intssM]
theorem intssM_le : ∀ (l : List (List Int)), (∀ x ∈ l, x.length ≤ 1048576) → intssM l ≤ l.length * 1048576
  | [], _ => by simp [intssM]
  | x :: l, h => by
    have h1 := h x (List.mem_cons_self ..)
    have h2 := intssM_le l (fun y hy => h y (List.mem_cons_of_mem _ hy))
    simp only [intssM, List.length_cons, Nat.succ_mul]
    omega
theorem intssMarks_nth (l : List (List Int)) (k j : Nat) (h : j < l.length) : nth (intssMarks l k) j = intMarks (nth l j).length (k + intssM (l.take j)) := by
  have h1 : intssMarks l k = intssMarks (l.take j) k ++ intssMarks (l.drop j) (k + intssM (l.take j)) := by
    rw [← intssMarks_append, List.take_append_drop]
  rw [h1, drop_nth l j h]
  have hl : (intssMarks (l.take j) k).length = j := by rw [intssMarks_len, List.length_take]; omega
  unfold nth
  rw [List.getD, List.getElem?_append_right (by omega), hl, Nat.sub_self]
  rfl
end Go.Proofs.YtclffohjpbmnbaaGreatDoor
