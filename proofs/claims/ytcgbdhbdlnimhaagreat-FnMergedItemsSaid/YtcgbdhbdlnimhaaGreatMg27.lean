import Derived.Test.YtcgbdhbdlnimhaaGreatMg1
import Derived.Maps.OwnOps
import Derived.Maps.Views
/- Seen: a map from texts to bools that the call makes: which texts it holds. -/
namespace Go.Proofs.YtcgbdhbdlnimhaaGreat
open Go.ChangeShapes Go.WideShapes Go.ChangeAt Go.RowKit Go.Maps

theorem strKeyed : Keyed Tryz.prog 9 := string_keyed Tryz.underlying9
theorem zeroBool (w : World) : (zeroValue 4).run Tryz.prog w = .ok (.bool false) w := by kernel_rfl
theorem plainElem_bool_inv {H : Type} {P : Program} {e : TypeId} (he : P.underlying e = some .bool) {v : Value} {z : DataW H × List MemPlace} (h : plainElem P e v = some z) : ∃ x, v = .bool x ∧ z = (.lit (.bool x), []) := by
  unfold plainElem at h
  rw [he] at h
  cases v <;> simp at h
  subst h
  exact ⟨_, rfl, rfl⟩
def seenB (ts : List ByteArray) (s : ByteArray) : Bool := ts.any fun t => decide (t = s)
/-- Block b is a map of at most n entries that holds just the texts of the list. -/
def Seen (w : World) (b n : Nat) (ts : List ByteArray) : Prop := ∃ D : DataW Unit, w.ownsMap Tryz.prog 9 (plainElem Tryz.prog 4) b n D ∧ IsMap D ∧ ∀ s : ByteArray, D.atKey (.string s.data.toList) (.lit (.bool false)) = .lit (.bool (seenB ts s))
section
variable {w w' : World} {b n : Nat} {ts : List ByteArray}
theorem seen_made (w : World) : Seen (w.alloc (.map #[] 0)) w.heap.size 0 [] := ⟨.map [], World.ownsMap_made _ _ _ _, isMap_empty, fun _ => rfl⟩
theorem Seen.grown {row : Option Nat} (h : Seen w b n ts) (hg : w.grownBy w' row) (hne : some b ≠ row) : Seen w' b n ts := by
  obtain ⟨D, h1, h2⟩ := h; exact ⟨D, h1.kept hg hne, h2⟩
theorem grownBy_of_below (h : Below w.heap.size w w') : w.grownBy w' none := ⟨h.os, h.tape, h.output, h.size, fun k hk _ => h.block k hk⟩
theorem Seen.below (h : Seen w b n ts) (hb : Below w.heap.size w w') : Seen w' b n ts := h.grown (grownBy_of_below hb) (by simp)
theorem Seen.lt (h : Seen w b n ts) : b < w.heap.size := by obtain ⟨D, h1, _⟩ := h; exact h1.lt
end
theorem bytes_data_inj {a b : ByteArray} (h : a.data.toList = b.data.toList) : a = b := by
  obtain ⟨⟨x⟩⟩ := a; obtain ⟨⟨y⟩⟩ := b; simp at h; rw [h]
set_option maxRecDepth 100000 in
/-- 'seen[text]'. -/
theorem wpList_seen {w : World} {ops : Array Oper} {rest : List Oper} {o : Oper} {a : Act} {Q : Exit → Act → World → Prop} (hg : o.guard = none) (m x : Operand)
    (hop : o.op = Op.lookup 77 m x false) (b n : Nat) (ts : List ByteArray) (hm : a.eval m = .map (some b)) (hown : Seen w b n ts) (s : ByteArray) (hx : a.eval x = .string s) (hs : s.size ≤ 9223372036854775807)
    (hK : wpList Tryz.prog ops Q rest (a.put o.dst (.bool (seenB ts s))) w) : wpList Tryz.prog ops Q (o :: rest) a w := by
  obtain ⟨D, h1, h2, h3⟩ := hown
  refine wpList_plain hg fun K' hK' => ?_
  obtain ⟨v, ps, hrun, hv⟩ := h1.lookup strKeyed Tryz.underlying77 (zeroBool w) (plainElem_bool Tryz.underlying4 false) (Go.WideMaps.keyOf_string_mk Tryz.underlying9 (s := s) (by unfold maxLen; exact hs))
  obtain ⟨c, rfl, hc⟩ := plainElem_bool_inv Tryz.underlying4 hv
  rw [h3 s] at hc
  have e : c = seenB ts s := by
    have := congrArg Prod.fst hc
    injection this with this
    injection this with this
    exact this.symm
  subst e
  unfold Oper.wp
  simp [execOp, hop, hm, hx, hrun, Result.andThen]
  exact hK' _ _ hK
set_option maxRecDepth 100000 in
/-- 'seen[text] = true'. -/
theorem wpList_see {w : World} {ops : Array Oper} {rest : List Oper} {o : Oper} {a : Act} {Q : Exit → Act → World → Prop} (hg : o.guard = none) (m x v : Operand)
    (hop : o.op = Op.mapUpdate 77 m x v) (b n : Nat) (ts : List ByteArray) (hm : a.eval m = .map (some b)) (hown : Seen w b n ts) (hn : n < 9223372036854775807) (s : ByteArray) (hx : a.eval x = .string s) (hs : s.size ≤ 9223372036854775807) (hv : a.eval v = .bool true)
    (hK : ∀ w', Seen w' b (n + 1) (ts ++ [s]) → w.grownBy w' (some b) → wpList Tryz.prog ops Q rest (a.put o.dst undef) w') : wpList Tryz.prog ops Q (o :: rest) a w := by
  obtain ⟨D, h1, h2, h3⟩ := hown
  have hkey := Go.WideMaps.keyOf_string_mk Tryz.underlying9 (s := s) (by unfold maxLen; exact hs)
  refine wpList_mapUpdate_own w hg m x v 77 hop 9 4 strKeyed Tryz.underlying77 _ b n D hm h1 (by unfold maxLen; omega) _ _ _ hx hv hkey (.lit (.bool true)) [] (plainElem_bool Tryz.underlying4 true) ?_
  intro w' h4 h5
  refine hK w' ⟨_, h4, h2.put _ _, fun t => ?_⟩ h5
  by_cases e : t = s
  · subst e
    rw [atKey_put_same h2 (strKeyed.key hkey)]
    simp [seenB]
  · rw [atKey_put_other (fun h => e (by injection h with h; exact bytes_data_inj h)), h3 t]
    simp [seenB, List.any_append, Ne.symm e]
end Go.Proofs.YtcgbdhbdlnimhaaGreat
