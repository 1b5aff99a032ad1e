import Derived.Test.YtclffohjpbmnbaaDoorMg14
import Derived.Test.YtclffohjpbmnbaaDoorMg15
import Derived.Test.YtclffohjpbmnbaaDoorMg16
import Derived.Test.YtclffohjpbmnbaaDoorMg4
import Derived.Sort.Walk0
/- CardOL: plain: the order in which cards are practiced. -/
namespace Go.Proofs.YtclffohjpbmnbaaDoor
open Go.ChangeShapes Go.WideShapes Go.ChangeAt Go.RowKit

def dueK (l : List Card) (x : Int) : Int := (nth l x.toNat).due
def lvlK (l : List Card) (x : Int) : Int := (nth l x.toNat).level
def ordK (l : List Card) (k : Nat) : List Int := orderL (dueK l) (lvlK l) k
def cardOrder (l : List Card) : List Int := ordK l l.length
theorem lessB_tr {a b c : ByteArray} (h1 : lessB a b = true) (h2 : lessB b c = true) : lessB a c = true := by
  have e : ∀ a b : ByteArray, lessB a b = Go.Sort.ltStr a.toList b.toList := fun a b => Go.Proofs.bytesLess_eq _ _
  rw [e] at *; exact Go.Sort.swo_ltStr.trans _ _ _ h1 h2
theorem lessB_as {a b : ByteArray} (h1 : lessB a b = true) : lessB b a = false := by
  have e : ∀ a b : ByteArray, lessB a b = Go.Sort.ltStr a.toList b.toList := fun a b => Go.Proofs.bytesLess_eq _ _
  cases h : lessB b a
  · rfl
  · have h2 := lessB_tr h1 h
    rw [e, Go.Sort.swo_ltStr.irrefl] at h2; exact absurd h2 (by decide)
theorem okCardsF_up : ∀ (l : List Card) (p : Option Card), okCardsF p l = true → (∀ x, p = some x → ∀ c ∈ l, lessB x.name c.name = true) ∧ l.Pairwise (fun a b => lessB a.name b.name = true)
  | [], p, _ => ⟨fun _ _ _ h => absurd h List.not_mem_nil, List.Pairwise.nil⟩
  | c :: l, p, h => by
    unfold okCardsF at h
    simp only [Bool.and_eq_true] at h
    obtain ⟨⟨_, _, _, ho⟩, hr⟩ := h
    obtain ⟨i1, i2⟩ := okCardsF_up l (some c) hr
    refine ⟨?_, List.pairwise_cons.2 ⟨fun x hx => i1 c rfl x hx, i2⟩⟩
    intro x hx y hy
    subst hx
    have ho' : lessB x.name c.name = true := ho
    rcases List.mem_cons.1 hy with rfl | hy
    · exact ho'
    · exact lessB_tr ho' (i1 c rfl y hy)
theorem okCards_up {l : List Card} (h : okCards l = true) {i j : Nat} (hij : i < j) (hj : j < l.length) : lessB (nth l i).name (nth l j).name = true := by
  unfold okCards at h
  rw [Bool.and_eq_true] at h
  have hp := (okCardsF_up l none h.1).2
  rw [nth_eq l j hj, nth_eq l i (by omega)]
  exact (List.pairwise_iff_getElem.1 hp) i j (by omega) hj hij
/-- Whether a card comes before another one, its name the last word. -/
def befC (x y : Card) : Bool := if x.due = y.due then (if x.level = y.level then lessB x.name y.name else decide (x.level < y.level)) else decide (x.due < y.due)
theorem befC_ltK {l : List Card} (h : okCards l = true) {y i : Nat} (hy : y < i) (hi : i < l.length) : befC (nth l i) (nth l y) = ltK (dueK l) (lvlK l) i y := by
  have hn := lessB_as (okCards_up h hy hi)
  unfold befC ltK dueK lvlK
  simp only [Int.toNat_natCast]
  split
  · rename_i h1
    split
    · rename_i h2
      rw [hn]
      exact (decide_eq_false (by omega)).symm
    · rename_i h2
      exact decide_eq_decide.2 (by omega)
  · rename_i h1
    congr 1
    apply propext
    constructor
    · exact fun h => .inl h
    · rintro (h | ⟨h, _⟩)
      · exact h
      · exact absurd h h1
theorem ordK_len (l : List Card) (k : Nat) : (ordK l k).length = k := order_len _ _ _
theorem cardOrder_len (l : List Card) : (cardOrder l).length = l.length := ordK_len _ _
theorem ordK_nth (l : List Card) (k i : Nat) (h : i < k) : ∃ j : Nat, j < k ∧ nth (ordK l k) i = (j : Int) := order_nth _ _ k i h
theorem cardOrder_nth (l : List Card) (i : Nat) (h : i < l.length) : ∃ j : Nat, j < l.length ∧ nth (cardOrder l) i = (j : Int) := ordK_nth l l.length i h
theorem ordK_step (l : List Card) (k : Nat) : ordK l (k + 1) = (ordK l k).take (posB (ltK (dueK l) (lvlK l)) (ordK l k) k k) ++ (k : Int) :: (ordK l k).drop (posB (ltK (dueK l) (lvlK l)) (ordK l k) k k) := order_step _ _ k
end Go.Proofs.YtclffohjpbmnbaaDoor
