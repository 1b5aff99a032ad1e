import Derived.Test.YtpfjmbgkbildjaaMg2
import Derived.Laws.BytesArg
import Derived.Test.YtpfjmbgkbildjaaMg10
import Derived.Laws.Concat
/- Bytes: rows of bytes of the call's own: appended to, turned into a text. -/
namespace Go.Proofs.Ytpfjmbgkbildjaa
open Go.ChangeShapes Go.WideShapes Go.ChangeAt Go.RowKit

def BytesC (w : World) (a : Option Addr) (l : List Int) : Prop :=
  ∀ i, i < l.length → ∃ b o, a = some ⟨b, o, none⟩ ∧ b < w.heap.size ∧ w.cell? ⟨b, o + i, none⟩ = some (.int .u8 (nth l i))
def OwnBytes (w : World) (base : Nat) (v : Value) (l : List Int) : Prop := w.ownsRow base 5 1 v l.length (l.map (Value.int .u8))
theorem byteInfo : (Try.prog.info? 5).map (fun i => (i.zero, i.size, i.bytes)) = some (some (.int .u8 0), 1, 1) := by kernel_rfl
theorem bytes_one (l : List Int) : ∀ u ∈ l.map (Value.int .u8), u.oneCell' = true := by
  intro u hu
  obtain ⟨x, _, rfl⟩ := List.mem_map.1 hu
  rfl
theorem reads_bytes {w : World} {a : Option Addr} {l : List Int} (h : BytesC w a l) : Reads w w.heap.size 1 a l.length (l.map (Value.int .u8)) := by
  refine ⟨by simp, fun hn => ?_⟩
  obtain ⟨b, o, rfl, hb, _⟩ := h 0 hn
  refine ⟨_, rfl, hb, fun j u hu => ?_⟩
  have hj : j < l.length := by
    have := (List.getElem?_eq_some_iff.1 hu).1
    simpa using this
  obtain ⟨b', o', hab, _, hc⟩ := h j hj
  cases hab
  rw [List.getElem?_map, nth_get? l j hj] at hu
  have e : (⟨b, o, none⟩ : Addr).add j = ⟨b, o + j, none⟩ := by unfold Addr.add; split <;> simp_all
  rw [e, hc]; exact hu
/-- 'append(out, b)', 'append(out, bs...)' at bytes. -/
theorem wpList_app_bytes {w : World} {ops : Array Oper} {rest : List Oper} {o : Oper} {a : Act} {Q : Exit → Act → World → Prop} (hgd : o.guard = none) (s x : Operand)
    (ho : o.op = .call { callee := .builtin .append, args := #[s, x], argTypes := #[22, 22] })
    (base : Nat) (v : Value) (l : List Int) (hs : a.eval s = v) (hown : OwnBytes w base v l)
    (A : Option Addr) (m c : Nat) (t : List Int) (hx : a.eval x = .slice A m c) (hm : m = t.length) (hr : BytesC w A t)
    (hsz : l.length + t.length ≤ 1073741824) (hbase : base ≤ w.heap.size)
    (h : ∀ a' n' c' w', OwnBytes w' base (.slice a' n' c') (l ++ t) → w.grownBy w' v.ownBlock → ((Value.slice a' n' c').ownBlock = v.ownBlock ∨ (Value.slice a' n' c').ownBlock = some w.heap.size) → n' = l.length + t.length → wpList Try.prog ops Q rest (a.put o.dst (.slice a' n' c')) w') : wpList Try.prog ops Q (o :: rest) a w := by
  obtain ⟨i0, h1, h2, h3, h4⟩ := info_parts byteInfo
  refine wpList_append_any w hgd s x 22 ho base 5 i0 _ 1 1 Try.underlying22 h1 h2 h3 h4 rfl (by decide) v l.length _ hs hown w.heap.size A m c (t.map (Value.int .u8)) hx (by rw [hm]; exact reads_bytes hr) (bytes_one t) (by rw [hm]; unfold maxLen; omega) (by rw [hm]; omega) hbase ?_
  intro v' w' hown' hg hb
  obtain ⟨a', c', rfl⟩ := slice_of_own hown'
  exact h a' _ c' w' (by unfold OwnBytes; rw [List.map_append, List.length_append]; rw [hm] at hown'; rw [hm]; exact hown') hg hb (by rw [hm])
theorem bytes_new (w : World) (x : Int) (t : TypeId) : BytesC (w.alloc (.cells #[.int .u8 x] t)) (some ⟨w.heap.size, 0, none⟩) [x] := by
  intro i hi
  obtain rfl : i = 0 := by simpa using hi
  exact ⟨w.heap.size, 0, rfl, by simp, by rw [World.cell?_alloc_at _ _ _ _ rfl]; rfl⟩
theorem own_bytes_empty (w : World) : OwnBytes (w.alloc (.cells #[] 5)) w.heap.size (.slice (some ⟨w.heap.size, 0, none⟩) 0 0) [] :=
  World.ownsRow_lit w #[] 0 (Nat.le_refl _) (by decide) rfl
/-- 'string(out)'. -/
theorem own_bytes_text {w : World} {base : Nat} {a : Option Addr} {n c : Nat} {l : List Int} (h : OwnBytes w base (.slice a n c) l) :
    ∀ dst, Try.prog.underlying dst = some .string → (convert 22 dst (.slice a n c)).run Try.prog w = .ok (.string (strOfNums l)) w := by
  intro dst hd
  rcases h.2 with ⟨he, h0⟩ | ⟨g, cap, cur, he, _⟩
  · cases he
    obtain rfl : l = [] := List.eq_nil_of_length_eq_zero h0
    exact run_convert_bytes_nil w 22 5 Try.underlying22 Try.underlying5 0 0 dst hd
  · cases he
    refine run_convert_bytes_arg w 22 5 Try.underlying22 Try.underlying5 g 0 _ _ l rfl (fun i hi => ?_) dst hd
    have h2 : w.ownsRow base 5 1 (.slice (some ⟨g, 0, none⟩) l.length c) l.length (l.map (Value.int .u8)) := h
    have := h2.cellAt i (by omega)
    rw [Nat.zero_add, this, List.getElem?_map]
    simp [List.getElem?_eq_getElem hi, List.getD]
end Go.Proofs.Ytpfjmbgkbildjaa

/- OpenBytes: what the reading of a slice of bytes says of the memory behind it. -/
namespace Go.Proofs.Ytpfjmbgkbildjaa
open Go.ChangeShapes Go.WideShapes Go.ChangeAt Go.RowKit Go.Deep

/-- A slice of bytes in memory. -/
def BytesAt (w : World) (v : Value) (l : List Int) : Prop := ∃ a n cap, v = .slice a n cap ∧ n = l.length ∧ n ≤ cap ∧ cap ≤ 9223372036854775807 ∧ BytesC w a l
theorem BytesC.below {w w' : World} {a : Option Addr} {l : List Int} (h : BytesC w a l) (hb : Below w.heap.size w w') : BytesC w' a l := by
  intro i hi
  obtain ⟨b, o, ha, hs, c0⟩ := h i hi
  exact ⟨b, o, ha, Nat.lt_of_lt_of_le hs hb.size, (hb.cell (p := ⟨b, _, none⟩) hs).trans c0⟩
theorem BytesAt.below {w w' : World} {v : Value} {l : List Int} (h : BytesAt w v l) (hb : Below w.heap.size w w') : BytesAt w' v l := by
  obtain ⟨a, n, cap, rfl, h1, h2, h3, hc⟩ := h
  exact ⟨a, n, cap, rfl, h1, h2, h3, hc.below hb⟩
section
variable {P : Program} {H : Type} {enc : TypeId × Value → H} {w : World} {base b0 : Nat} {spare : Nat → Bool} {held : Bool} {r : Reach} {v : Value} {d : DataW H} {p : List MemPlace}
theorem bytes_of_trod {t e : TypeId} (ht : P.underlying t = some (.slice e)) (he : P.underlying e = some (.int .u8)) (hc1 : P.cellsOf e = 1) (hv : Value.okWide P w r b0 t v) (h : DataW.Trod enc P w base spare held t v d p) :
    ∃ l, BytesAt w v l ∧ ∀ n ∈ l, 0 ≤ n ∧ n ≤ 255 := by
  obtain ⟨a, len, cap, rfl⟩ := okWide_slice ht hv
  obtain ⟨fuel, hf⟩ := h
  have hf' : DataW.trod enc P w base spare held fuel t [.slice a len cap] = some (d, p) := by simpa [Value.cells] using hf
  rcases open_slice ht hf' with ⟨hcs, _⟩ | ⟨a, len, cap, m, n, D, Pl, hcs, _, hl, hm, hmm, hx, hi⟩
  · simp at hcs
    obtain ⟨rfl, rfl, rfl⟩ := hcs
    exact ⟨[], ⟨none, 0, 0, rfl, rfl, Nat.le_refl _, by decide, fun i hi => absurd hi (Nat.not_lt_zero _)⟩, fun n hn => by cases hn⟩
  · simp at hcs
    obtain ⟨rfl, rfl, rfl⟩ := hcs
    have hlm : len ≤ m := by rw [hmm]; split <;> omega
    have hspot : 0 < len → a.spot = none := fun h0 => by
      obtain ⟨cs', hc, ht'⟩ := hi 0 (by omega)
      rw [hc1] at hc
      obtain ⟨z, rfl, _, hw⟩ := DataW.trod_int he ht'
      obtain ⟨_, hcl, hat⟩ := World.cells?_some hc
      have h0 := hat 0 (by omega)
      rw [Nat.zero_mul, ← Nat.add_zero 0, Go.Deep.add_add] at h0
      exact spot_of_cell h0
    obtain ⟨l, hll, hr⟩ := choose_list (fun i (x : Int) => a = ⟨a.block, a.off, none⟩ ∧ a.block < w.heap.size ∧ w.cell? ⟨a.block, a.off + i, none⟩ = some (.int .u8 x) ∧ 0 ≤ x ∧ x ≤ 255) len (fun i hil => by
      obtain ⟨cs', hc, ht'⟩ := hi i (by omega)
      rw [hc1] at hc
      obtain ⟨z, rfl, _, hw⟩ := DataW.trod_int he ht'
      obtain ⟨_, hcl, hat⟩ := World.cells?_some hc
      have h0 := hat 0 (by omega)
      rw [Nat.mul_one] at h0
      have h1 : w.cell? (a.add i) = some (.int .u8 z) := by rw [← Nat.add_zero i, ← Go.Deep.add_add, h0]; rfl
      obtain ⟨h2, h3, h4⟩ := addr_of_cell (hspot (by omega)) h1
      simp [Lit.wf, IntKind.min, IntKind.max, IntKind.signed, IntKind.bits] at hw
      exact ⟨z, h2, h3, h4, by omega, by omega⟩)
    refine ⟨l, ⟨some a, len, cap, rfl, hll.symm, hl, by simpa [maxLen] using hm, fun i hi => ?_⟩, fun n hn => ?_⟩
    · obtain ⟨ha, hb, hc, _⟩ := hr i (by omega)
      exact ⟨a.block, a.off, by rw [← ha], hb, hc⟩
    · obtain ⟨i, hi, rfl⟩ := List.getElem_of_mem hn
      have := (hr i (by omega)).2.2.2
      rwa [nth_eq l i hi] at this
end
end Go.Proofs.Ytpfjmbgkbildjaa

/- Marks: what the law's marks do to memory: rows of the call's own are overwritten, and nothing else is. -/
namespace Go.Proofs.Ytpfjmbgkbildjaa
open Go.ChangeShapes Go.WideShapes Go.ChangeAt Go.RowKit

/-- Of the blocks that were there only those from lo on and below hi have turned. -/
structure Turned (lo hi : Nat) (w w' : World) : Prop where
  os : w'.os = w.os
  tape : w'.tape = w.tape
  output : w'.output = w.output
  size : w.heap.size ≤ w'.heap.size
  block : ∀ k, k < w.heap.size → (k < lo ∨ hi ≤ k) → w'.heap[k]? = w.heap[k]?
section
variable {lo hi : Nat} {a b c w w' : World}
theorem Turned.of_below (h : Below w.heap.size w w') : Turned lo hi w w' := ⟨h.os, h.tape, h.output, h.size, fun k hk _ => h.block k hk⟩
theorem Turned.refl (w : World) : Turned lo hi w w := .of_below (Below.refl _ _)
theorem Turned.trans (h : Turned lo hi a b) (k : Turned lo hi b c) : Turned lo hi a c :=
  ⟨k.os.trans h.os, k.tape.trans h.tape, k.output.trans h.output, Nat.le_trans h.size k.size, fun i hi' ho => (k.block i (Nat.lt_of_lt_of_le hi' h.size) ho).trans (h.block i hi' ho)⟩
theorem Turned.then_below (h : Turned lo hi a b) (k : Below b.heap.size b c) : Turned lo hi a c := h.trans (.of_below k)
theorem Turned.set (h : Turned lo hi a w) {p : Addr} (h1 : lo ≤ p.block) (h2 : p.block < hi) (u : Value) : Turned lo hi a (w.setCell p u) :=
  ⟨h.os, h.tape, h.output, by simpa [World.setCell] using h.size, fun k hk ho => (Below.heap_setCell w p u k (by omega)).trans (h.block k hk ho)⟩
theorem Turned.below {B : Nat} (h : Turned lo hi w w') (hB : B ≤ lo) (hs : B ≤ w.heap.size) : Below B w w' := ⟨h.os, h.tape, h.output, h.size, fun k hk => h.block k (by omega) (.inl (by omega))⟩
theorem Turned.mono {lo' hi' : Nat} (h : Turned lo hi w w') (h1 : lo' ≤ lo) (h2 : hi ≤ hi') : Turned lo' hi' w w' := ⟨h.os, h.tape, h.output, h.size, fun k hk ho => h.block k hk (by omega)⟩
theorem own_turned {base : Nat} {e : TypeId} {size : Nat} {v : Value} {n : Nat} {xs : List Value} (h : w.ownsRow base e size v n xs) (ht : Turned lo hi w w') (hd : ∀ g, v.ownBlock = some g → g < lo ∨ hi ≤ g) : w'.ownsRow base e size v n xs := by
  refine ⟨h.1, ?_⟩
  rcases h.2 with hn | ⟨g, cap, cur, rfl, hb, hgg, rest⟩
  · exact .inl hn
  · refine .inr ⟨g, cap, cur, rfl, hb, ?_, rest⟩
    rw [ht.block g (Array.getElem?_eq_some_iff.1 hgg).1 (hd g rfl)]
    exact hgg
end

theorem own_rebase {w : World} {b1 b2 : Nat} {e : TypeId} {size : Nat} {v : Value} {n : Nat} {xs : List Value} (h : w.ownsRow b1 e size v n xs) (hl : ∀ g, v.ownBlock = some g → b2 ≤ g) : w.ownsRow b2 e size v n xs := by
  obtain ⟨h1, h2⟩ := h
  refine ⟨h1, ?_⟩
  rcases h2 with h2 | ⟨g, cap, cur, rfl, hb, r⟩
  · exact .inl h2
  · exact .inr ⟨g, cap, cur, rfl, hl g rfl, r⟩
/-- A row of the call's own, made between two points of time. -/
def RowIn (e : TypeId) (size : Nat) (w : World) (base hi : Nat) (v : Value) (n : Nat) (xs : List Value) : Prop := w.ownsRow base e size v n xs ∧ ∀ g, v.ownBlock = some g → g < hi
section
variable {e : TypeId} {size base hi n : Nat} {w w' : World} {v : Value} {xs : List Value}
theorem RowIn.of (h : w.ownsRow base e size v n xs) : RowIn e size w base w.heap.size v n xs := ⟨h, fun g hg => (h.lt g hg).2⟩
theorem RowIn.below (h : RowIn e size w base hi v n xs) (hb : Below w.heap.size w w') : RowIn e size w' base hi v n xs := ⟨own_below h.1 hb, h.2⟩
theorem RowIn.turned {lo' hi' : Nat} (h : RowIn e size w base hi v n xs) (ht : Turned lo' hi' w w') (hd : hi ≤ lo' ∨ hi' ≤ base) : RowIn e size w' base hi v n xs :=
  ⟨own_turned h.1 ht (fun g hg => by have := (h.1.lt g hg).1; have := h.2 g hg; omega), h.2⟩
end

theorem mark_then {B lo hi : Nat} {w w1 w2 : World} (h : Below B w w1) (k : Turned lo hi w1 w2) (hB : B ≤ lo) (hs : B ≤ w1.heap.size) : Below B w w2 := h.trans (k.below hB hs)
theorem fillE {α : Type} [Inhabited α] (enc : α → Value) {l : List α} {k : Nat} {xs : List Value} (h : ∀ i, i < k → xs[i]? = some (enc (nth l i))) (hlen : k < xs.length) :
    ∀ i, i < k + 1 → (xs.set k (enc (nth l k)))[i]? = some (enc (nth l i)) := by
  intro i hi
  by_cases hik : i < k
  · rw [List.getElem?_set_ne (by omega)]; exact h i hik
  · obtain rfl : i = k := by omega
    rw [List.getElem?_set_self hlen]
theorem row_extE {α : Type} [Inhabited α] (enc : α → Value) (l : List α) (xs : List Value) (hl : xs.length = l.length) (h : ∀ i, i < l.length → xs[i]? = some (enc (nth l i))) : xs = l.map enc := by
  apply List.ext_getElem?
  intro i
  by_cases hi : i < l.length
  · rw [h i hi, List.getElem?_map, nth_get? l i hi]; rfl
  · rw [List.getElem?_eq_none (by omega), List.getElem?_eq_none (by simp; omega)]
theorem nth_range_map {α : Type} [Inhabited α] (f : Nat → α) (n i : Nat) (h : i < n) : nth ((List.range n).map f) i = f i := by
  rw [nth_eq _ _ (by simpa using h)]; simp

theorem flat_set {α : Type} [Inhabited α] (enc : α → List Value) (k : Nat) (hk : ∀ x, (enc x).length = k) : ∀ (l : List α) (i : Nat), i < l.length → ∀ (j : Nat) (u : Value) (y : α), j < k → enc y = (enc (nth l i)).set j u → (l.flatMap enc).set (i * k + j) u = (l.set i y).flatMap enc
  | [], i, hi, _, _, _, _, _ => absurd hi (Nat.not_lt_zero _)
  | x :: l, 0, _, j, u, y, hj, he => by
    rw [nth_cons_zero] at he
    rw [List.flatMap_cons, List.set_cons_zero, List.flatMap_cons, he, Nat.zero_mul, Nat.zero_add, List.set_append_left _ _ (by rw [hk]; exact hj)]
  | x :: l, i + 1, hi, j, u, y, hj, he => by
    rw [nth_cons_succ] at he
    rw [List.flatMap_cons, List.set_cons_succ, List.flatMap_cons, ← flat_set enc k hk l i (by simpa using hi) j u y hj he, List.set_append_right _ _ (by rw [hk, Nat.succ_mul]; omega), hk]
    congr 2
    rw [Nat.succ_mul]; omega
theorem nth_set {α : Type} [Inhabited α] (l : List α) (i j : Nat) (y : α) (hi : i < l.length) : nth (l.set i y) j = if j = i then y else nth l j := by
  unfold nth
  by_cases h : j = i
  · subst h; simp [List.getD, hi]
  · rw [if_neg h]; simp [List.getD, List.getElem?_set_ne (Ne.symm h)]

/-! ### The text of a mark -/
set_option linter.unusedVariables false in
def digF (k : Nat) (out : ByteArray) : ByteArray := if h : k = 0 then out else digF (k / 10) (strOfNums [48 + (k : Int) % 10] ++ out)
  termination_by k
  decreasing_by exact Nat.div_lt_self (Nat.pos_of_ne_zero h) (by omega)
theorem digF_zero (out : ByteArray) : digF 0 out = out := by unfold digF; rfl
theorem digF_step (k : Nat) (out : ByteArray) (h : k ≠ 0) : digF k out = digF (k / 10) (strOfNums [48 + (k : Int) % 10] ++ out) := by rw [digF, dif_neg h]
theorem digF_size (k : Nat) (out : ByteArray) : (digF k out).size ≤ k + out.size := by
  induction k using Nat.strongRecOn generalizing out with
  | ind k ih =>
    by_cases h : k = 0
    · subst h; rw [digF_zero]; omega
    · rw [digF_step k out h]
      have := ih (k / 10) (Nat.div_lt_self (by omega) (by omega)) (strOfNums [48 + (k : Int) % 10] ++ out)
      rw [ByteArray.size_append, strOfNums_size] at this
      have h2 : k / 10 < k := Nat.div_lt_self (by omega) (by omega)
      simp at this
      omega
def markB (k : Nat) : ByteArray := ByteArray.mk #[109] ++ digF k ByteArray.empty
end Go.Proofs.Ytpfjmbgkbildjaa
