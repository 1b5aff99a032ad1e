import Derived.Test.YtclffohjpbmnbaaDoorMg10
import Derived.Test.YtclffohjpbmnbaaDoorMg13
/- CardFn: cards appended; the card with a name; the code of a plan and a day. -/
namespace Go.Proofs.YtclffohjpbmnbaaDoor
open Go.ChangeShapes Go.WideShapes Go.ChangeAt Go.RowKit

theorem cards_reads {w : World} {a : Option Addr} {l : List Card} (h : CardsC w a l) : Reads w w.heap.size 3 a l.length (l.flatMap cardCells) := by
  refine ⟨flat_len cardCells 3 cardCells_len l, fun hn => ?_⟩
  obtain ⟨b, o, rfl, hb, _⟩ := h 0 hn
  refine ⟨_, rfl, hb, fun j u hu => ?_⟩
  have hj : j < l.length * 3 := by
    have := (List.getElem?_eq_some_iff.1 hu).1
    rwa [flat_len cardCells 3 cardCells_len l] at this
  obtain ⟨b', o', hab, _, _, e0, e1, e2⟩ := h (j / 3) (by omega)
  cases hab
  have ha : (⟨b, o, none⟩ : Addr).add j = ⟨b, o + j, none⟩ := by unfold Addr.add; split <;> simp_all
  have hd : j = j / 3 * 3 + j % 3 := by omega
  rw [ha]
  have hf := flat_at cardCells 3 cardCells_len l (j / 3) (by omega) (j % 3) (by omega)
  rw [← hd, hu] at hf
  have h3 : j % 3 = 0 ∨ j % 3 = 1 ∨ j % 3 = 2 := by omega
  rcases h3 with h3 | h3 | h3
  · rw [h3] at hf hd
    rw [hf, show o + j = o + j / 3 * 3 by omega]; exact e0
  · rw [h3] at hf hd
    rw [hf, show o + j = o + j / 3 * 3 + 1 by omega]; exact e1
  · rw [h3] at hf hd
    rw [hf, show o + j = o + j / 3 * 3 + 2 by omega]; exact e2
theorem cards_one (l : List Card) : ∀ u ∈ l.flatMap cardCells, u.oneCell' = true := by
  intro u hu
  obtain ⟨x, _, hx⟩ := List.mem_flatMap.1 hu
  simp only [cardCells, List.mem_cons, List.not_mem_nil, or_false] at hx
  rcases hx with rfl | rfl | rfl <;> rfl
theorem cardInfo' : ∃ i0, Tryd.prog.info? 43 = some i0 ∧ i0.zero = some (.agg #[.string ByteArray.empty, .int .i64 0, .int .i64 0]) ∧ i0.size = 3 ∧ i0.bytes = 32 := by
  obtain ⟨i0, h1, h2, h3, h4⟩ := info_parts cardInfo
  exact ⟨i0, h1, h2, h3, h4⟩
/-- 'append(out, x)', 'append(out, xs...)' at cards. -/
theorem wpList_app_cards {w : World} {ops : Array Oper} {rest : List Oper} {o : Oper} {a : Act} {Q : Exit → Act → World → Prop} (hgd : o.guard = none) (s x : Operand)
    (ho : o.op = .call { callee := .builtin .append, args := #[s, x], argTypes := #[24, 24] })
    (base : Nat) (v : Value) (l : List Card) (hs : a.eval s = v) (hown : OwnCards w base v l)
    (A : Option Addr) (m c : Nat) (t : List Card) (hx : a.eval x = .slice A m c) (hm : m = t.length) (hr : Reads w w.heap.size 3 A m (t.flatMap cardCells)) (ht : ∀ c ∈ t, c.name.size ≤ 9223372036854775807)
    (hsz : l.length + t.length ≤ 1073741824) (hbase : base ≤ w.heap.size)
    (h : ∀ a' n' c' w', OwnCards w' base (.slice a' n' c') (l ++ t) → w.grownBy w' v.ownBlock → ((Value.slice a' n' c').ownBlock = v.ownBlock ∨ (Value.slice a' n' c').ownBlock = some w.heap.size) → n' = l.length + t.length → wpList Tryd.prog ops Q rest (a.put o.dst (.slice a' n' c')) w') : wpList Tryd.prog ops Q (o :: rest) a w := by
  obtain ⟨i0, h1, h2, h3, h4⟩ := cardInfo'
  refine wpList_append_any w hgd s x 24 ho base 43 i0 _ 3 32 Tryd.underlying24 h1 h2 h3 h4 rfl (by decide) v l.length _ hs hown.1 w.heap.size A m c (t.flatMap cardCells) hx hr (cards_one t) (by rw [hm]; unfold maxLen; omega) (by rw [hm]; omega) hbase ?_
  intro v' w' hown' hg hb
  obtain ⟨a', c', rfl⟩ := slice_of_own hown'
  refine h a' _ c' w' ⟨?_, ?_⟩ hg hb (by rw [hm])
  · rw [List.flatMap_append, List.length_append]; rw [hm] at hown'; rw [hm]; exact hown'
  · intro c hc
    rcases List.mem_append.1 hc with h | h
    · exact hown.2 c h
    · exact ht c h
theorem step_app_cards {w : World} {ops : Array Oper} {o : Oper} {a : Act} {K : Act → World → Prop} {Q : Exit → Act → World → Prop} {E : Prop} (hgd : o.guard = none) (s x : Operand)
    (ho : o.op = .call { callee := .builtin .append, args := #[s, x], argTypes := #[24, 24] })
    (base : Nat) (v : Value) (l : List Card) (hs : a.eval s = v) (hown : OwnCards w base v l)
    (A : Option Addr) (m c : Nat) (t : List Card) (hx : a.eval x = .slice A m c) (hm : m = t.length) (hr : Reads w w.heap.size 3 A m (t.flatMap cardCells)) (ht : ∀ c ∈ t, c.name.size ≤ 9223372036854775807)
    (hsz : l.length + t.length ≤ 1073741824) (hbase : base ≤ w.heap.size)
    (h : ∀ a' n' c' w', OwnCards w' base (.slice a' n' c') (l ++ t) → w.grownBy w' v.ownBlock → ((Value.slice a' n' c').ownBlock = v.ownBlock ∨ (Value.slice a' n' c').ownBlock = some w.heap.size) → n' = l.length + t.length → K (a.put o.dst (.slice a' n' c')) w') :
    if Region.wanted o (yielded ops a.tmps) = true then Oper.wp Tryd.prog o a w K Q else E := by
  obtain ⟨i0, h1, h2, h3, h4⟩ := cardInfo'
  refine step_append_any w hgd s x 24 ho base 43 i0 _ 3 32 Tryd.underlying24 h1 h2 h3 h4 rfl (by decide) v l.length _ hs hown.1 w.heap.size A m c (t.flatMap cardCells) hx hr (cards_one t) (by rw [hm]; unfold maxLen; omega) (by rw [hm]; omega) hbase ?_
  intro v' w' hown' hg hb
  obtain ⟨a', c', rfl⟩ := slice_of_own hown'
  refine h a' _ c' w' ⟨?_, ?_⟩ hg hb (by rw [hm])
  · rw [List.flatMap_append, List.length_append]; rw [hm] at hown'; rw [hm]; exact hown'
  · intro c hc
    rcases List.mem_append.1 hc with h | h
    · exact hown.2 c h
    · exact ht c h
theorem own_cards_empty (w : World) : OwnCards (w.alloc (.cells #[] 43)) w.heap.size (.slice (some ⟨w.heap.size, 0, none⟩) 0 0) [] :=
  ⟨World.ownsRow_lit w #[] 0 (Nat.le_refl _) (by decide) rfl, fun _ hc => absurd hc List.not_mem_nil⟩
theorem own_cards_nil (w : World) (base : Nat) : OwnCards w base (.slice none 0 0) [] := ⟨World.ownsRow_nil _ _ _ _, fun _ hc => absurd hc List.not_mem_nil⟩
theorem OwnCards.below {w w' : World} {base : Nat} {v : Value} {l : List Card} (h : OwnCards w base v l) (hb : Below w.heap.size w w') : OwnCards w' base v l := ⟨own_below h.1 hb, h.2⟩
theorem OwnCards.alloc {w : World} {base : Nat} {v : Value} {l : List Card} (h : OwnCards w base v l) (o : Obj) : OwnCards (w.alloc o) base v l := ⟨h.1.alloc o, h.2⟩
theorem CardsC.take {w : World} {a : Option Addr} {l : List Card} (h : CardsC w a l) (k : Nat) : CardsC w a (l.take k) := by
  intro i hi
  rw [List.length_take] at hi
  have e : nth (l.take k) i = nth l i := by simp [nth, show i < k by omega]
  rw [e]
  exact h i (by omega)
theorem cardsAt_size {w : World} {v : Value} {l : List Card} (h : CardsAt w v l) : ∀ c ∈ l, c.name.size ≤ 9223372036854775807 := by
  obtain ⟨a, n, cap, rfl, hn, hl, hm, hc⟩ := h
  intro c hcl
  obtain ⟨i, hi, rfl⟩ := List.getElem_of_mem hcl
  obtain ⟨_, _, _, _, hsz, _⟩ := hc i hi
  rwa [nth_eq l i hi] at hsz

theorem flat_drop {α : Type} (enc : α → List Value) (k : Nat) (hk : ∀ x, (enc x).length = k) : ∀ (l : List α) (j : Nat), (l.flatMap enc).drop (j * k) = (l.drop j).flatMap enc
  | l, 0 => by simp
  | [], j + 1 => by simp
  | x :: l, j + 1 => by
    rw [List.flatMap_cons, List.drop_succ_cons, ← flat_drop enc k hk l j, Nat.succ_mul, Nat.add_comm, ← List.drop_drop]
    congr 1
    rw [List.drop_append_of_le_length (by rw [hk]; exact Nat.le_refl _), List.drop_of_length_le (by rw [hk]; exact Nat.le_refl _), List.nil_append]
theorem cards_front {w : World} {a : Option Addr} {l : List Card} {n k : Nat} (h : CardsC w a l) (hn : n = l.length) (hk : k ≤ n) : Reads w w.heap.size 3 a k ((l.take k).flatMap cardCells) := by
  have := cards_reads (h.take k)
  rwa [List.length_take, ← hn, Nat.min_eq_left hk] at this
theorem cards_back {w : World} {a : Option Addr} {l : List Card} {n k cap : Nat} (h : CardsC w a l) (hn : n = l.length) (hk : k ≤ n) (hc : n ≤ cap) (hne : ¬ cap = k) : Reads w w.heap.size 3 (a.map fun x => x.add (k * 3)) (n - k) ((l.drop k).flatMap cardCells) := by
  have h1 := cards_reads h
  rw [← hn] at h1
  have := Reads.cut (k := k) (cap := cap) h1 hk hc
  rwa [if_neg hne, flat_drop cardCells 3 cardCells_len] at this
theorem cards_none (w : World) (a : Option Addr) : Reads w w.heap.size 3 a 0 ([] : List Value) := ⟨rfl, fun h => absurd h (Nat.lt_irrefl _)⟩
theorem size_take {l : List Card} (h : ∀ c ∈ l, c.name.size ≤ 9223372036854775807) (k : Nat) : ∀ c ∈ l.take k, c.name.size ≤ 9223372036854775807 := fun c hc => h c (List.mem_of_mem_take hc)
theorem size_drop {l : List Card} (h : ∀ c ∈ l, c.name.size ≤ 9223372036854775807) (k : Nat) : ∀ c ∈ l.drop k, c.name.size ≤ 9223372036854775807 := fun c hc => h c (List.mem_of_mem_drop hc)

/-! ### The card with a name -/
def findF : List Card → ByteArray → Nat → Int
  | [], _, _ => -1
  | c :: l, s, k => if c.name = s then (k : Int) else findF l s (k + 1)
def findC (l : List Card) (s : ByteArray) : Int := findF l s 0
theorem findF_step (l : List Card) (s : ByteArray) (k j : Nat) (h : k < l.length) : findF (l.drop k) s j = if (nth l k).name = s then (j : Int) else findF (l.drop (k + 1)) s (j + 1) := by
  rw [drop_nth l k h]; rfl
theorem findF_cases : ∀ (l : List Card) (s : ByteArray) (j : Nat), findF l s j = -1 ∨ ∃ k : Nat, findF l s j = ((j + k : Nat) : Int) ∧ k < l.length ∧ (nth l k).name = s
  | [], _, _ => .inl rfl
  | c :: l, s, j => by
    unfold findF
    by_cases h : c.name = s
    · rw [if_pos h]; exact .inr ⟨0, rfl, by simp, h⟩
    · rw [if_neg h]
      rcases findF_cases l s (j + 1) with h2 | ⟨k, h2, h3, h4⟩
      · exact .inl h2
      · exact .inr ⟨k + 1, by rw [h2]; congr 1; omega, by simpa using h3, by rw [nth_cons_succ]; exact h4⟩
theorem findC_cases (l : List Card) (s : ByteArray) : findC l s = -1 ∨ ∃ k : Nat, findC l s = (k : Int) ∧ k < l.length ∧ (nth l k).name = s := by
  have := findF_cases l s 0
  simpa [findC] using this

def dayC (l : List Card) (d : Int) : Int := if okCards l then (if inB d 0 100000 then 0 else 2) else 1
theorem l25Code_c (v : Value) (l : List Card) (d : Int) (w : World) (hv : CardsAt w v l) : Calls Tryd.prog 26 #[v, .int .i64 d] w (Gives (.int .i64 (dayC l d)) w) := by
  have HQ := l25Ok_c v l w hv
  have HD := l25Day_c d
  clear hv
  cases hE : okCards l <;> cases hF : inB d 0 100000
  all_goals
    rw [hE] at HQ
    rw [hF] at HD
    have HD := Lib.hid HD
    have HE := Lib.hid hE
    have HF := Lib.hid hF
    clear hE hF
    go_enter Tryd.func26, Tryd.ntmps26
    go_wp2_with fail
    refine HQ.mono ?_
    rintro e w1 ⟨rfl, hb1⟩
    clear HQ
  iterate 2
    · go_wp2
      go_ret
      exact Gives.int (by unfold dayC; rw [HE.out]; rfl) hb1
  iterate 2
    · go_wp2_with fail
      refine (HD.out _).mono ?_
      rintro e w2 ⟨rfl, hb2⟩
      go_wp2
      go_ret
      exact Gives.int (by unfold dayC; rw [HE.out, HF.out]; rfl) (bthen hb1 hb2)
theorem dayCode_c (v : Value) (l : List Card) (d : Int) (w : World) (hv : CardsAt w v l) : Calls Tryd.prog 24 #[v, .int .i64 d] w (Gives (.int .i64 (dayC l d)) w) := by
  have HQ := iValidCards_c v l w hv
  have HD := isDay_c d
  clear hv
  cases hE : okCards l <;> cases hF : inB d 0 100000
  all_goals
    rw [hE] at HQ
    rw [hF] at HD
    have HD := Lib.hid HD
    have HE := Lib.hid hE
    have HF := Lib.hid hF
    clear hE hF
    go_enter Tryd.func24, Tryd.ntmps24
    go_wp2_with fail
    refine HQ.mono ?_
    rintro e w1 ⟨rfl, hb1⟩
    clear HQ
  iterate 2
    · go_wp2
      go_ret
      exact Gives.int (by unfold dayC; rw [HE.out]; rfl) hb1
  iterate 2
    · go_wp2_with fail
      refine (HD.out _).mono ?_
      rintro e w2 ⟨rfl, hb2⟩
      go_wp2
      go_ret
      exact Gives.int (by unfold dayC; rw [HE.out, HF.out]; rfl) (bthen hb1 hb2)
end Go.Proofs.YtclffohjpbmnbaaDoor
