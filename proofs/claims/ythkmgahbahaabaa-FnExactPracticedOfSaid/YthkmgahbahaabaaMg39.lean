import Derived.Test.YthkmgahbahaabaaMg10
import Derived.Laws.BytesArg
/- Bytes: rows of bytes of the call's own: appended to, turned into a text. -/
namespace Go.Proofs.Ythkmgahbahaabaa
open Go.ChangeShapes Go.WideShapes Go.ChangeAt Go.RowKit

def BytesC (w : World) (a : Option Addr) (l : List Int) : Prop :=
  ∀ i, i < l.length → ∃ b o, a = some ⟨b, o, none⟩ ∧ b < w.heap.size ∧ w.cell? ⟨b, o + i, none⟩ = some (.int .u8 (nth l i))
def OwnBytes (w : World) (base : Nat) (v : Value) (l : List Int) : Prop := w.ownsRow base 5 1 v l.length (l.map (Value.int .u8))
theorem byteInfo : (Try.prog.info? 5).map (fun i => (i.zero, i.size, i.bytes)) = some (some (.int .u8 0), 1, 1) := by kernel_rfl
theorem bytes_one (l : List Int) : ∀ u ∈ l.map (Value.int .u8), u.oneCell' = true := by
  intro u hu
  obtain ⟨x, _, rfl⟩ := List.mem_map.1 hu
  rfl
theorem reads_bytes {w : World} {a : Option Addr} {l : List Int} (h : BytesC w a l) : Reads w w.heap.size 1 a l.length (l.map (Value.int .u8)) := by
  refine ⟨by simp, fun hn => ?_⟩
  obtain ⟨b, o, rfl, hb, _⟩ := h 0 hn
  refine ⟨_, rfl, hb, fun j u hu => ?_⟩
  have hj : j < l.length := by
    have := (List.getElem?_eq_some_iff.1 hu).1
    simpa using this
  obtain ⟨b', o', hab, _, hc⟩ := h j hj
  cases hab
  rw [List.getElem?_map, nth_get? l j hj] at hu
  have e : (⟨b, o, none⟩ : Addr).add j = ⟨b, o + j, none⟩ := by unfold Addr.add; split <;> simp_all
  rw [e, hc]; exact hu
/-- 'append(out, b)', 'append(out, bs...)' at bytes. -/
theorem wpList_app_bytes {w : World} {ops : Array Oper} {rest : List Oper} {o : Oper} {a : Act} {Q : Exit → Act → World → Prop} (hgd : o.guard = none) (s x : Operand)
    (ho : o.op = .call { callee := .builtin .append, args := #[s, x], argTypes := #[56, 56] })
    (base : Nat) (v : Value) (l : List Int) (hs : a.eval s = v) (hown : OwnBytes w base v l)
    (A : Option Addr) (m c : Nat) (t : List Int) (hx : a.eval x = .slice A m c) (hm : m = t.length) (hr : BytesC w A t)
    (hsz : l.length + t.length ≤ 1073741824) (hbase : base ≤ w.heap.size)
    (h : ∀ a' n' c' w', OwnBytes w' base (.slice a' n' c') (l ++ t) → w.grownBy w' v.ownBlock → ((Value.slice a' n' c').ownBlock = v.ownBlock ∨ (Value.slice a' n' c').ownBlock = some w.heap.size) → n' = l.length + t.length → wpList Try.prog ops Q rest (a.put o.dst (.slice a' n' c')) w') : wpList Try.prog ops Q (o :: rest) a w := by
  obtain ⟨i0, h1, h2, h3, h4⟩ := info_parts byteInfo
  refine wpList_append_any w hgd s x 56 ho base 5 i0 _ 1 1 Try.underlying56 h1 h2 h3 h4 rfl (by decide) v l.length _ hs hown w.heap.size A m c (t.map (Value.int .u8)) hx (by rw [hm]; exact reads_bytes hr) (bytes_one t) (by rw [hm]; unfold maxLen; omega) (by rw [hm]; omega) hbase ?_
  intro v' w' hown' hg hb
  obtain ⟨a', c', rfl⟩ := slice_of_own hown'
  exact h a' _ c' w' (by unfold OwnBytes; rw [List.map_append, List.length_append]; rw [hm] at hown'; rw [hm]; exact hown') hg hb (by rw [hm])
theorem bytes_new (w : World) (x : Int) (t : TypeId) : BytesC (w.alloc (.cells #[.int .u8 x] t)) (some ⟨w.heap.size, 0, none⟩) [x] := by
  intro i hi
  obtain rfl : i = 0 := by simpa using hi
  exact ⟨w.heap.size, 0, rfl, by simp, by rw [World.cell?_alloc_at _ _ _ _ rfl]; rfl⟩
theorem own_bytes_empty (w : World) : OwnBytes (w.alloc (.cells #[] 5)) w.heap.size (.slice (some ⟨w.heap.size, 0, none⟩) 0 0) [] :=
  World.ownsRow_lit w #[] 0 (Nat.le_refl _) (by decide) rfl
/-- 'string(out)'. -/
theorem own_bytes_text {w : World} {base : Nat} {a : Option Addr} {n c : Nat} {l : List Int} (h : OwnBytes w base (.slice a n c) l) :
    ∀ dst, Try.prog.underlying dst = some .string → (convert 56 dst (.slice a n c)).run Try.prog w = .ok (.string (strOfNums l)) w := by
  intro dst hd
  rcases h.2 with ⟨he, h0⟩ | ⟨g, cap, cur, he, _⟩
  · cases he
    obtain rfl : l = [] := List.eq_nil_of_length_eq_zero h0
    exact run_convert_bytes_nil w 56 5 Try.underlying56 Try.underlying5 0 0 dst hd
  · cases he
    refine run_convert_bytes_arg w 56 5 Try.underlying56 Try.underlying5 g 0 _ _ l rfl (fun i hi => ?_) dst hd
    have h2 : w.ownsRow base 5 1 (.slice (some ⟨g, 0, none⟩) l.length c) l.length (l.map (Value.int .u8)) := h
    have := h2.cellAt i (by omega)
    rw [Nat.zero_add, this, List.getElem?_map]
    simp [List.getElem?_eq_getElem hi, List.getD]
end Go.Proofs.Ythkmgahbahaabaa
