/- ItemsFn: finding an item, copying items, by both packages. -/
import Derived.Test.YtmfoclokpmbpfaaItemsL
import Derived.Test.YtmfoclokpmbpfaaNestApp
import Derived.Deep.RegionHeld3
namespace Go.Proofs.Ytmfoclokpmbpfaa
open Go.ChangeShapes Go.WideShapes Go.ChangeAt Go.RowKit

def findI (f : Item → Bool) (l : List Item) : Int := match l.findIdx? f with
  | some i => i
  | none => -1
theorem findI_hit {f : Item → Bool} {l : List Item} {k : Nat} (h : ∀ j, j < k → f (nth l j) = false) (hk : k < l.length) (hf : f (nth l k) = true) : findI f l = k := by
  have : l.findIdx? f = some k := by
    rw [List.findIdx?_eq_some_iff_getElem]
    refine ⟨hk, by rw [← nth_eq l k hk]; exact hf, fun j hj => ?_⟩
    rw [← nth_eq l j (by omega), h j hj]; simp
  unfold findI; rw [this]
theorem findI_none {f : Item → Bool} {l : List Item} (h : ∀ j, j < l.length → f (nth l j) = false) : findI f l = -1 := by
  have : l.findIdx? f = none := by
    rw [List.findIdx?_eq_none_iff]
    intro x hx
    obtain ⟨i, hi, rfl⟩ := List.getElem_of_mem hx
    rw [← nth_eq l i hi]; exact h i hi
  unfold findI; rw [this]
theorem findI_cases (f : Item → Bool) (l : List Item) : findI f l = -1 ∨ ∃ k : Nat, findI f l = (k : Int) ∧ k < l.length ∧ f (nth l k) = true ∧ ∀ j, j < k → f (nth l j) = false := by
  cases h : l.findIdx? f with
  | none => left; unfold findI; rw [h]
  | some k =>
    right
    rw [List.findIdx?_eq_some_iff_getElem] at h
    obtain ⟨hk, h1, h2⟩ := h
    have h3 : ∀ j, j < k → f (nth l j) = false := fun j hj => by rw [nth_eq l j (by omega)]; simpa using h2 j hj
    exact ⟨k, findI_hit h3 hk (by rw [nth_eq l k hk]; exact h1), hk, by rw [nth_eq l k hk]; exact h1, h3⟩
def isNm (s : ByteArray) (x : Item) : Bool := decide (x.name = s)
def isPt (p : List Int) (x : Item) : Bool := same2 eqI x.pattern p


def GivesItems (l : List Item) (w : World) (e : Ending) (w' : World) : Prop := ∃ a n c, e = .returned (.slice a n c) ∧ OwnItems w' w.heap.size (.slice a n c) l ∧ Below w.heap.size w w'
theorem own_items_empty (w : World) : OwnItems (w.alloc (.cells #[] 40)) w.heap.size (.slice (some ⟨w.heap.size, 0, none⟩) 0 0) [] :=
  ⟨[], rfl, World.ownsRow_lit w #[] 0 (Nat.le_refl _) (by decide) rfl, fun _ h => absurd h List.not_mem_nil, List.Pairwise.nil⟩
theorem itemInfo0 : (Try.prog.info? 40).map (fun i => (i.zero, i.size, i.bytes)) = some (some (.agg #[.string ByteArray.empty, .slice none 0 0]), 2, 40) := by kernel_rfl
theorem items_one (ps : List (Value × Item)) (h : ∀ p ∈ ps, ∃ pa pn pc, p.1 = .slice pa pn pc) : ∀ u ∈ ps.flatMap (fun p => itemS.enc p.1 p.2), u.oneCell' = true := by
  intro u hu
  obtain ⟨p, hp, hu⟩ := List.mem_flatMap.1 hu
  obtain ⟨pa, pn, pc, e⟩ := h p hp
  simp only [itemS, List.mem_cons, List.not_mem_nil, or_false] at hu
  rcases hu with rfl | rfl
  · rfl
  · rw [e]; rfl
/-- 'append(out, items..)' in a region that draws its order. -/
theorem step_app_items {w : World} {ops : Array Oper} {o : Oper} {a : Act} {K : Act → World → Prop} {Q : Exit → Act → World → Prop} {E : Prop} (hgd : o.guard = none) (s x : Operand)
    (ho : o.op = .call { callee := .builtin .append, args := #[s, x], argTypes := #[25, 25] })
    (base : Nat) (v : Value) (n : Nat) (xs : List Value) (hs : a.eval s = v) (hown : w.ownsRow base 40 2 v n xs)
    (A : Option Addr) (m c : Nat) (news : List Value) (hx : a.eval x = .slice A m c) (hr : Reads w w.heap.size 2 A m news) (h1 : ∀ u ∈ news, u.oneCell' = true)
    (hsz : n + m ≤ 1073741824) (hbase : base ≤ w.heap.size)
    (h : ∀ a' n' c' w', w'.ownsRow base 40 2 (.slice a' n' c') (n + m) (xs ++ news) → w.grownBy w' v.ownBlock → ((Value.slice a' n' c').ownBlock = v.ownBlock ∨ (Value.slice a' n' c').ownBlock = some w.heap.size) → K (a.put o.dst (.slice a' n' c')) w') :
    if Region.wanted o (yielded ops a.tmps) = true then Oper.wp Try.prog o a w K Q else E := by
  obtain ⟨i0, hi, hz0, hz1, hz2⟩ := info_parts itemInfo0
  refine step_append_any w hgd s x 25 ho base 40 i0 _ 2 40 Try.underlying25 hi hz0 hz1 hz2 rfl (by decide) v n xs hs hown w.heap.size A m c news hx hr h1 (by unfold maxLen; omega) (by omega) hbase ?_
  intro v' w' hown' hg hb
  obtain ⟨a', c', rfl⟩ := slice_of_own hown'
  exact h a' _ c' w' hown' hg hb
theorem wpList_app_items {w : World} {ops : Array Oper} {rest : List Oper} {o : Oper} {a : Act} {Q : Exit → Act → World → Prop} (hgd : o.guard = none) (s x : Operand)
    (ho : o.op = .call { callee := .builtin .append, args := #[s, x], argTypes := #[25, 25] })
    (base : Nat) (v : Value) (n : Nat) (xs : List Value) (hs : a.eval s = v) (hown : w.ownsRow base 40 2 v n xs)
    (A : Option Addr) (m c : Nat) (news : List Value) (hx : a.eval x = .slice A m c) (hr : Reads w w.heap.size 2 A m news) (h1 : ∀ u ∈ news, u.oneCell' = true)
    (hsz : n + m ≤ 1073741824) (hbase : base ≤ w.heap.size)
    (h : ∀ a' n' c' w', n' = n + m → w'.ownsRow base 40 2 (.slice a' n' c') (n + m) (xs ++ news) → w.grownBy w' v.ownBlock → ((Value.slice a' n' c').ownBlock = v.ownBlock ∨ (Value.slice a' n' c').ownBlock = some w.heap.size) → wpList Try.prog ops Q rest (a.put o.dst (.slice a' n' c')) w') :
    wpList Try.prog ops Q (o :: rest) a w := by
  obtain ⟨i0, hi, hz0, hz1, hz2⟩ := info_parts itemInfo0
  refine wpList_append_any w hgd s x 25 ho base 40 i0 _ 2 40 Try.underlying25 hi hz0 hz1 hz2 rfl (by decide) v n xs hs hown w.heap.size A m c news hx hr h1 (by unfold maxLen; omega) (by omega) hbase ?_
  intro v' w' hown' hg hb
  obtain ⟨a', c', rfl⟩ := slice_of_own hown'
  exact h a' _ c' w' rfl hown' hg hb
theorem item_new (w : World) (nm : ByteArray) (u : Value) (t : TypeId) : Reads (w.alloc (.cells #[.string nm, u] t)) (w.alloc (.cells #[.string nm, u] t)).heap.size 2 (some ⟨w.heap.size, 0, none⟩) 1 [.string nm, u] := by
  refine ⟨rfl, fun _ => ⟨_, rfl, by simp, fun j x hx => ?_⟩⟩
  have ea : (⟨w.heap.size, 0, none⟩ : Addr).add j = ⟨w.heap.size, j, none⟩ := by unfold Addr.add; split <;> simp_all
  rw [ea, World.cell?_alloc_at _ _ _ _ rfl]
  simpa using hx
end Go.Proofs.Ytmfoclokpmbpfaa
