import Derived.Test.YtclffohjpbmnbaaDoorMg14
import Derived.Test.YtclffohjpbmnbaaDoorMg15
import Derived.Test.YtclffohjpbmnbaaDoorMg7
import Derived.Test.YtclffohjpbmnbaaDoorMg26
/- CardWork: how many cards are due at each of some days. -/
namespace Go.Proofs.YtclffohjpbmnbaaDoor
open Go.ChangeShapes Go.WideShapes Go.ChangeAt Go.RowKit

def atOf (c : Card) (day : Int) : Int := if day < c.due then c.due - day else 0
def bump (l : List Int) (i : Nat) : List Int := l.set i (nth l i + 1)
def workF : List Card → Int → Int → List Int → List Int
  | [], _, _, out => out
  | c :: l, day, days, out => workF l day days (if atOf c day < days then bump out (atOf c day).toNat else out)
theorem workF_step (l : List Card) (day days : Int) (out : List Int) (k : Nat) (h : k < l.length) : workF (l.drop k) day days out = workF (l.drop (k + 1)) day days (if atOf (nth l k) day < days then bump out (atOf (nth l k) day).toNat else out) := by
  rw [drop_nth l k h]; rfl
theorem workF_len (day days : Int) : ∀ (l : List Card) (out : List Int), (workF l day days out).length = out.length
  | [], out => rfl
  | c :: l, out => by
    unfold workF
    rw [workF_len day days l]
    split
    · unfold bump; rw [List.length_set]
    · rfl
def workCode (l : List Card) (day days : Int) : Int := if dayC l day = 0 then (if inB days 0 1000 then (if inB (day + days) 0 100000 then 0 else 2) else 2) else dayC l day
def workL (l : List Card) (day days : Int) : List Int := if workCode l day days = 0 then workF l day days (List.replicate days.toNat 0) else []
theorem workL_len (l : List Card) (day days : Int) : (workL l day days).length ≤ 1099511627776 := by
  unfold workL
  split
  · rename_i h
    rw [workF_len, List.length_replicate]
    unfold workCode at h
    split at h
    · split at h
      · rename_i h2
        have := inB_true h2
        omega
      · omega
    · omega
  · exact Nat.zero_le _
theorem OwnInts.set {w : World} {base g n cap : Nat} {l : List Int} (h : OwnInts w base (.slice (some ⟨g, 0, none⟩) n cap) l) (i : Nat) (x : Int) : OwnInts (w.setCell ⟨g, i, none⟩ (.int .i64 x)) base (.slice (some ⟨g, 0, none⟩) n cap) (l.set i x) := by
  unfold OwnInts at *
  have hn : n = l.length := by
    rcases h.2 with ⟨he, h0⟩ | ⟨g', cap', cur, he, _⟩
    · cases he
    · injection he
  subst hn
  rw [List.length_set, List.map_set]
  exact (h.stored i _).1
theorem nth_set_in {l : List Int} {i : Nat} {lo hi x : Int} (h : ∀ j, j < l.length → lo ≤ nth l j ∧ nth l j ≤ hi) (hx : lo ≤ x ∧ x ≤ hi) : ∀ j, j < (l.set i x).length → lo ≤ nth (l.set i x) j ∧ nth (l.set i x) j ≤ hi := by
  intro j hj
  rw [List.length_set] at hj
  unfold nth
  by_cases e : i = j
  · subst e; simp [List.getD, hj]; exact hx
  · simp [List.getD, List.getElem?_set_ne e]
    have := h j hj
    rw [nth_eq l j hj] at this
    simpa [hj] using this
theorem okCardsF_in : ∀ (l : List Card) (p : Option Card), okCardsF p l = true → ∀ c ∈ l, 0 ≤ c.level ∧ c.level ≤ 6 ∧ 0 ≤ c.due ∧ c.due ≤ 100000
  | [], _, _, c, hc => absurd hc List.not_mem_nil
  | x :: l, p, h, c, hc => by
    simp only [okCardsF, Bool.and_eq_true] at h
    rcases List.mem_cons.1 hc with rfl | hc
    · have h1 := inB_true h.1.2.1; have h2 := inB_true h.1.2.2.1; exact ⟨h1.1, h1.2, h2.1, h2.2⟩
    · exact okCardsF_in l _ h.2 c hc
theorem okCards_in {l : List Card} (h : okCards l = true) (k : Nat) (hk : k < l.length) : 0 ≤ (nth l k).level ∧ (nth l k).level ≤ 6 ∧ 0 ≤ (nth l k).due ∧ (nth l k).due ≤ 100000 := by
  unfold okCards at h
  rw [Bool.and_eq_true] at h
  exact okCardsF_in l _ h.1 _ (mem_nth hk)
theorem own_mono2 {w : World} {base base' : Nat} {v : Value} {l : List Int} (h : OwnInts w base' v l) (hb : base ≤ base') : OwnInts w base v l := own_mono' h hb
theorem ownInts_cell {w : World} {base g n cap : Nat} {l : List Int} (h : OwnInts w base (.slice (some ⟨g, 0, none⟩) n cap) l) (i : Nat) (hi : i < l.length) : w.cell? ⟨g, i, none⟩ = some (.int .i64 (nth l i)) ∧ w.frozen? ⟨g, i, none⟩ = false := by
  have hn : n = l.length := by
    rcases h.2 with ⟨he, h0⟩ | ⟨g', cap', cur, he, _⟩
    · cases he
    · injection he
  subst hn
  have h1 := World.ownsRow.cellAt h i (by omega)
  rw [List.getElem?_map, nth_get? l i hi] at h1
  exact ⟨h1, World.ownsRow.frozenAt h i⟩
theorem dayC_zero {l : List Card} {d : Int} (h : dayC l d = 0) : okCards l = true ∧ 0 ≤ d ∧ d ≤ 100000 := by
  unfold dayC at h
  split at h
  · rename_i h1
    split at h
    · rename_i h2; exact ⟨h1, inB_true h2⟩
    · omega
  · omega
theorem bump_in {l : List Int} {i : Nat} {k : Int} (h : ∀ j, j < l.length → 0 ≤ nth l j ∧ nth l j ≤ k) (hi : i < l.length) : ∀ j, j < (bump l i).length → 0 ≤ nth (bump l i) j ∧ nth (bump l i) j ≤ k + 1 := by
  unfold bump
  have := h i hi
  exact nth_set_in (fun j hj => by have := h j hj; omega) (by omega)
theorem ints_zero (D j : Nat) (h : j < (List.replicate D (0 : Int)).length) : 0 ≤ nth (List.replicate D (0 : Int)) j ∧ nth (List.replicate D (0 : Int)) j ≤ ((0 : Nat) : Int) := by
  rw [nth_eq _ _ h, List.getElem_replicate]; simp
theorem madeInts (D : Nat) : (madeCells (Value.int .i64 0).cells (D * 1)).toList = (List.replicate D (0 : Int)).map (Value.int .i64) := by
  rw [show (Value.int .i64 0).cells = #[Value.int .i64 0] from rfl, toList_madeCells_one, Nat.mul_one, List.map_replicate]
end Go.Proofs.YtclffohjpbmnbaaDoor
