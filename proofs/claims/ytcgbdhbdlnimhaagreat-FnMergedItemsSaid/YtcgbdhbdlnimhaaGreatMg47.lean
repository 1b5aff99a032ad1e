import Derived.Test.YtcgbdhbdlnimhaaGreatMg12
import Derived.Test.YtcgbdhbdlnimhaaGreatMg31
import Derived.Lib.AppendStr
/- BytesT: a text appended to bytes of the call's own. -/
namespace Go.Proofs.YtcgbdhbdlnimhaaGreat
open Go.ChangeShapes Go.WideShapes Go.ChangeAt Go.RowKit

theorem strCells_chars (s : ByteArray) : Go.Lib.strCells s = (chars s).map (Value.int .u8) := by
  unfold Go.Lib.strCells chars; rw [List.map_map]; rfl
theorem run_app_text {w : World} {ty : TypeId} (base : Nat) (v : Value) (l : List Int) (hown : OwnBytes w base v l) (s : ByteArray) (hsz : l.length + s.size ≤ 140737488355328) (hbase : base ≤ w.heap.size) :
    ∃ a' n' c' w', (Builtin.append_ #[22, 9] ty #[v, .string s]).run Tryz.prog w = .ok (.slice a' n' c') w' ∧ OwnBytes w' base (.slice a' n' c') (l ++ chars s) ∧ w.grownBy w' v.ownBlock := by
  obtain ⟨i0, h1, h2, h3, h4⟩ := info_parts byteInfo
  obtain ⟨v', w', hr, ho, hg, _⟩ := Go.Lib.run_append_own_string (P := Tryz.prog) w base 22 9 ty 5 i0 Tryz.underlying22 Tryz.underlying9 h1 h2 h3 h4 v l.length _ hown s (by unfold maxLen; omega) hsz hbase
  obtain ⟨a', c', rfl⟩ := slice_of_own ho
  refine ⟨a', _, c', w', hr, ?_, hg⟩
  unfold OwnBytes
  rw [List.length_append, chars_len, List.map_append, ← strCells_chars]; exact ho
theorem wp_app_text {w : World} {o : Oper} {a : Act} {K : Act → World → Prop} {Q : Exit → Act → World → Prop} (s x : Operand)
    (ho : o.op = .call { callee := .builtin .append, args := #[s, x], argTypes := #[22, 9] })
    (base : Nat) (v : Value) (l : List Int) (hs : a.eval s = v) (hown : OwnBytes w base v l) (t : ByteArray) (hx : a.eval x = .string t) (hsz : l.length + t.size ≤ 140737488355328) (hbase : base ≤ w.heap.size)
    (h : ∀ a' n' c' w', OwnBytes w' base (.slice a' n' c') (l ++ chars t) → w.grownBy w' v.ownBlock → K (a.put o.dst (.slice a' n' c')) w') : o.wp Tryz.prog a w K Q := by
  obtain ⟨a', n', c', w', hrun, h2, h3⟩ := run_app_text (w := w) (ty := o.type) base v l hown t hsz hbase
  unfold Oper.wp execOp
  simp only [ho, resolve, invoke, builtin, Sem.run_bind, Sem.run_pure, Result.andThen_ok, List.map_toArray, List.map_cons, List.map_nil, hs, hx, hrun]
  exact h a' n' c' w' h2 h3
/-- 'append(out, s...)' at a text. -/
theorem wpList_app_text {w : World} {ops : Array Oper} {rest : List Oper} {o : Oper} {a : Act} {Q : Exit → Act → World → Prop} (hgd : o.guard = none) (s x : Operand)
    (ho : o.op = .call { callee := .builtin .append, args := #[s, x], argTypes := #[22, 9] })
    (base : Nat) (v : Value) (l : List Int) (hs : a.eval s = v) (hown : OwnBytes w base v l) (t : ByteArray) (hx : a.eval x = .string t) (hsz : l.length + t.size ≤ 140737488355328) (hbase : base ≤ w.heap.size)
    (h : ∀ a' n' c' w', OwnBytes w' base (.slice a' n' c') (l ++ chars t) → w.grownBy w' v.ownBlock → wpList Tryz.prog ops Q rest (a.put o.dst (.slice a' n' c')) w') : wpList Tryz.prog ops Q (o :: rest) a w :=
  wpList_plain hgd fun _ hK => wp_app_text s x ho base v l hs hown t hx hsz hbase fun a' n' c' w' h2 h3 => hK _ _ (h a' n' c' w' h2 h3)
theorem step_app_text {w : World} {ops : Array Oper} {o : Oper} {a : Act} {K : Act → World → Prop} {Q : Exit → Act → World → Prop} {E : Prop} (hgd : o.guard = none) (s x : Operand)
    (ho : o.op = .call { callee := .builtin .append, args := #[s, x], argTypes := #[22, 9] })
    (base : Nat) (v : Value) (l : List Int) (hs : a.eval s = v) (hown : OwnBytes w base v l) (t : ByteArray) (hx : a.eval x = .string t) (hsz : l.length + t.size ≤ 140737488355328) (hbase : base ≤ w.heap.size)
    (h : ∀ a' n' c' w', OwnBytes w' base (.slice a' n' c') (l ++ chars t) → w.grownBy w' v.ownBlock → K (a.put o.dst (.slice a' n' c')) w') :
    if Region.wanted o (yielded ops a.tmps) = true then Oper.wp Tryz.prog o a w K Q else E := by
  have hw : Region.wanted o (yielded ops a.tmps) = true := by simp [Region.wanted, hgd]
  rw [if_pos hw]
  exact wp_app_text s x ho base v l hs hown t hx hsz hbase h
end Go.Proofs.YtcgbdhbdlnimhaaGreat
