import Derived.Test.YtcgbdhbdlnimhaaGreatMg1
import Derived.Maps.AppendAt
import Derived.Deep.AppendLies
import Derived.RegionTactic
import Derived.OwnWalk
import Derived.Test.YtcgbdhbdlnimhaaGreatMg3
/- App: append onto a row of the call's own, whatever is appended. -/
namespace Go.Proofs.YtcgbdhbdlnimhaaGreat
open Go.ChangeShapes Go.WideShapes Go.ChangeAt Go.RowKit

theorem block_of_add (a : Addr) (n : Nat) : (a.add n).block = a.block := by unfold Addr.add; split <;> rfl
theorem add_of_add (a : Addr) (i j : Nat) : (a.add i).add j = a.add (i + j) := by
  unfold Addr.add
  by_cases hi : i = 0 <;> by_cases hj : j = 0 <;> simp [hi, hj, Nat.add_assoc]

def Reads (w : World) (B size : Nat) (A : Option Addr) (n : Nat) (xs : List Value) : Prop :=
  xs.length = n * size ∧ (0 < n → ∃ ad, A = some ad ∧ ad.block < B ∧ ∀ j u, xs[j]? = some u → w.cell? (ad.add j) = some u)

section
variable {w w' : World} {B B' size n : Nat} {A : Option Addr} {xs : List Value}
theorem Reads.none_ : Reads w B size A 0 [] := ⟨by simp, fun h => absurd h (by omega)⟩
theorem Reads.at_ {k : Nat} (h : Reads w B 1 A n xs) (hk : k < n) : ∃ ad u, A = some ad ∧ ad.block < B ∧ xs[k]? = some u ∧ w.cell? (ad.add k) = some u := by
  obtain ⟨ad, e, hb, hc⟩ := h.2 (by omega)
  have hl : k < xs.length := by have := h.1; omega
  exact ⟨ad, xs[k], e, hb, List.getElem?_eq_getElem hl, hc k _ (List.getElem?_eq_getElem hl)⟩
theorem Reads.keep (h : Reads w B size A n xs) (hk : ∀ p : Addr, p.block < B → w'.cell? p = w.cell? p) : Reads w' B size A n xs :=
  ⟨h.1, fun hn => by
    obtain ⟨ad, e, hb, hc⟩ := h.2 hn
    exact ⟨ad, e, hb, fun j u hu => (hk _ (by rw [block_of_add]; exact hb)).trans (hc j u hu)⟩⟩
theorem Reads.more (h : Reads w B size A n xs) (hB : B ≤ B') : Reads w B' size A n xs :=
  ⟨h.1, fun hn => by
    obtain ⟨ad, e, hb, hc⟩ := h.2 hn
    exact ⟨ad, e, by omega, hc⟩⟩
theorem Reads.below (h : Reads w B size A n xs) (hb : Below B w w') : Reads w' B size A n xs := h.keep fun _ hp => hb.cell hp
theorem Reads.drew (h : Reads w B size A n xs) : Reads w.drew B size A n xs := h
theorem Reads.drewN (h : Reads w B size A n xs) (k : Nat) : Reads (w.drewN k) B size A n xs := h
theorem Reads.alloc (h : Reads w B size A n xs) (hB : B ≤ w.heap.size) (o : Obj) : Reads (w.alloc o) B size A n xs := h.keep fun p hp => World.cell?_alloc_lt w o p (by omega)
theorem Reads.setCell (h : Reads w B size A n xs) {p : Addr} (hB : B ≤ p.block) (u : Value) : Reads (w.setCell p u) B size A n xs :=
  h.keep fun q hq => World.cell?_setCell_other w p q u (fun e => by subst e; omega)
theorem Reads.grown (h : Reads w B size A n xs) {row : Option Nat} (hg : w.grownBy w' row) (hB : B ≤ w.heap.size) (hr : ∀ g, row = some g → B ≤ g) : Reads w' B size A n xs :=
  h.keep fun p hp => World.cell?_of_block (hg.block p.block (by omega) (fun e => by have := hr _ e.symm; omega))
theorem Reads.cut (h : Reads w B size A n xs) {k cap : Nat} (hk : k ≤ n) (hc : n ≤ cap) :
    Reads w B size (if cap = k then A else A.map (·.add (k * size))) (n - k) (xs.drop (k * size)) := by
  refine ⟨by rw [List.length_drop, h.1, Nat.sub_mul], fun hn => ?_⟩
  obtain ⟨ad, rfl, hb, hcell⟩ := h.2 (by omega)
  rw [if_neg (by omega)]
  refine ⟨ad.add (k * size), rfl, by rw [block_of_add]; exact hb, fun j u hu => ?_⟩
  rw [add_of_add]
  exact hcell _ u (by rw [← hu, List.getElem?_drop])
end

section
variable {P : Program} (w : World)

theorem run_append_of_nil (base : Nat) (t ty e : TypeId) (i : TypeInfo) (size : Nat) (ht : P.underlying t = some (.slice e)) (hi : P.info? e = some i)
    (v : Value) (n : Nat) (xs : List Value) (hown : w.ownsRow base e size v n xs) (c : Nat) : (Builtin.append_ #[t, t] ty #[v, .slice none 0 c]).run P w = .ok v w := by
  rcases hown.2 with ⟨rfl, rfl⟩ | ⟨g, cap, cur, rfl, _, _, hnc, _⟩
  · simp [Builtin.append_, run_underlying ht, sizeOf, typeInfo, hi, Builtin.lenOf, Builtin.firstCells]
  · simp [Builtin.append_, run_underlying ht, sizeOf, typeInfo, hi, Builtin.lenOf, Builtin.firstCells, hnc, storeCells]

theorem run_append_any (base : Nat) (t ty e : TypeId) (i : TypeInfo) (z : Value) (size bytes : Nat) (ht : P.underlying t = some (.slice e)) (hi : P.info? e = some i) (hz : i.zero = some z)
    (hsize : i.size = size) (hby : i.bytes = bytes) (hzs : z.cells.size = size) (hsz : 0 < size)
    (v : Value) (n : Nat) (xs : List Value) (hown : w.ownsRow base e size v n xs)
    (B : Nat) (A : Option Addr) (m c : Nat) (news : List Value) (hr : Reads w B size A m news) (h1 : ∀ u ∈ news, u.oneCell' = true)
    (h63 : n + m ≤ maxLen) (hbytes : (n + m) * bytes ≤ 140737488355328) (hbase : base ≤ w.heap.size) :
    ∃ v' w', (Builtin.append_ #[t, t] ty #[v, .slice A m c]).run P w = .ok v' w' ∧ w'.ownsRow base e size v' (n + m) (xs ++ news) ∧ w.grownBy w' v.ownBlock ∧
      (v'.ownBlock = v.ownBlock ∨ v'.ownBlock = some w.heap.size) := by
  rcases A with _ | ad
  · have hm : m = 0 := by
      rcases Nat.eq_zero_or_pos m with h0 | h0
      · exact h0
      · obtain ⟨ad, h, _⟩ := hr.2 h0
        cases h
    subst hm
    have hn : news = [] := List.eq_nil_of_length_eq_zero (by simpa using hr.1)
    subst hn
    exact ⟨v, w, run_append_of_nil w base t ty e i size ht hi v n xs hown c, by simpa using hown, World.grownBy.refl w _, .inl rfl⟩
  · have hcells : ∀ j u, news[j]? = some u → w.cell? (ad.add j) = some u := by
      intro j u hu
      rcases Nat.eq_zero_or_pos m with h0 | h0
      · subst h0
        have hn : news = [] := List.eq_nil_of_length_eq_zero (by simpa using hr.1)
        subst hn
        simp at hu
      · obtain ⟨ad', h, _, hc⟩ := hr.2 h0
        injection h with h
        subst h
        exact hc j u hu
    obtain ⟨v', w', hrun, h2, h3, _, h5⟩ := run_append_own_at (P := P) w base t ty e i z size bytes ht hi hz hsize hby hzs hsz v n xs hown ad m c news hr.1 hcells h1 h63 hbytes hbase
    exact ⟨v', w', hrun, h2, h3, h5⟩

theorem wp_append_any {o : Oper} {a : Act} {K : Act → World → Prop} {Q : Exit → Act → World → Prop} (s x : Operand) (t : TypeId)
    (ho : o.op = .call { callee := .builtin .append, args := #[s, x], argTypes := #[t, t] })
    (base : Nat) (e : TypeId) (i : TypeInfo) (z : Value) (size bytes : Nat) (ht : P.underlying t = some (.slice e)) (hi : P.info? e = some i) (hz : i.zero = some z)
    (hsize : i.size = size) (hby : i.bytes = bytes) (hzs : z.cells.size = size) (hsz : 0 < size)
    (v : Value) (n : Nat) (xs : List Value) (hs : a.eval s = v) (hown : w.ownsRow base e size v n xs)
    (B : Nat) (A : Option Addr) (m c : Nat) (news : List Value) (hx : a.eval x = .slice A m c) (hr : Reads w B size A m news) (h1 : ∀ u ∈ news, u.oneCell' = true)
    (h63 : n + m ≤ maxLen) (hbytes : (n + m) * bytes ≤ 140737488355328) (hbase : base ≤ w.heap.size)
    (h : ∀ v' w', w'.ownsRow base e size v' (n + m) (xs ++ news) → w.grownBy w' v.ownBlock → (v'.ownBlock = v.ownBlock ∨ v'.ownBlock = some w.heap.size) → K (a.put o.dst v') w') : o.wp P a w K Q := by
  obtain ⟨v', w', hrun, h2, h3, h4⟩ := run_append_any (P := P) w base t o.type e i z size bytes ht hi hz hsize hby hzs hsz v n xs hown B A m c news hr h1 h63 hbytes hbase
  unfold Oper.wp execOp
  simp only [ho, resolve, invoke, builtin, Sem.run_bind, Sem.run_pure, Result.andThen_ok, List.map_toArray, List.map_cons, List.map_nil, hs, hx, hrun]
  exact h v' w' h2 h3 h4

theorem wpList_append_any {ops : Array Oper} {rest : List Oper} {o : Oper} {a : Act} {Q : Exit → Act → World → Prop} (hgd : o.guard = none) (s x : Operand) (t : TypeId)
    (ho : o.op = .call { callee := .builtin .append, args := #[s, x], argTypes := #[t, t] })
    (base : Nat) (e : TypeId) (i : TypeInfo) (z : Value) (size bytes : Nat) (ht : P.underlying t = some (.slice e)) (hi : P.info? e = some i) (hz : i.zero = some z)
    (hsize : i.size = size) (hby : i.bytes = bytes) (hzs : z.cells.size = size) (hsz : 0 < size)
    (v : Value) (n : Nat) (xs : List Value) (hs : a.eval s = v) (hown : w.ownsRow base e size v n xs)
    (B : Nat) (A : Option Addr) (m c : Nat) (news : List Value) (hx : a.eval x = .slice A m c) (hr : Reads w B size A m news) (h1 : ∀ u ∈ news, u.oneCell' = true)
    (h63 : n + m ≤ maxLen) (hbytes : (n + m) * bytes ≤ 140737488355328) (hbase : base ≤ w.heap.size)
    (h : ∀ v' w', w'.ownsRow base e size v' (n + m) (xs ++ news) → w.grownBy w' v.ownBlock → (v'.ownBlock = v.ownBlock ∨ v'.ownBlock = some w.heap.size) → wpList P ops Q rest (a.put o.dst v') w') : wpList P ops Q (o :: rest) a w :=
  wpList_plain hgd fun _ hK => wp_append_any w s x t ho base e i z size bytes ht hi hz hsize hby hzs hsz v n xs hs hown B A m c news hx hr h1 h63 hbytes hbase fun v' w' h2 h3 h4 => hK _ _ (h v' w' h2 h3 h4)

theorem step_append_any {ops : Array Oper} {o : Oper} {a : Act} {K : Act → World → Prop} {Q : Exit → Act → World → Prop} {E : Prop} (hgd : o.guard = none) (s x : Operand) (t : TypeId)
    (ho : o.op = .call { callee := .builtin .append, args := #[s, x], argTypes := #[t, t] })
    (base : Nat) (e : TypeId) (i : TypeInfo) (z : Value) (size bytes : Nat) (ht : P.underlying t = some (.slice e)) (hi : P.info? e = some i) (hz : i.zero = some z)
    (hsize : i.size = size) (hby : i.bytes = bytes) (hzs : z.cells.size = size) (hsz : 0 < size)
    (v : Value) (n : Nat) (xs : List Value) (hs : a.eval s = v) (hown : w.ownsRow base e size v n xs)
    (B : Nat) (A : Option Addr) (m c : Nat) (news : List Value) (hx : a.eval x = .slice A m c) (hr : Reads w B size A m news) (h1 : ∀ u ∈ news, u.oneCell' = true)
    (h63 : n + m ≤ maxLen) (hbytes : (n + m) * bytes ≤ 140737488355328) (hbase : base ≤ w.heap.size)
    (h : ∀ v' w', w'.ownsRow base e size v' (n + m) (xs ++ news) → w.grownBy w' v.ownBlock → (v'.ownBlock = v.ownBlock ∨ v'.ownBlock = some w.heap.size) → K (a.put o.dst v') w') :
    if Region.wanted o (yielded ops a.tmps) = true then Oper.wp P o a w K Q else E := by
  have hw : Region.wanted o (yielded ops a.tmps) = true := by simp [Region.wanted, hgd]
  rw [if_pos hw]
  exact wp_append_any w s x t ho base e i z size bytes ht hi hz hsize hby hzs hsz v n xs hs hown B A m c news hx hr h1 h63 hbytes hbase h
end

theorem reads_ints {w : World} {a : Option Addr} {l : List Int} (h : IntsC w a l) : Reads w w.heap.size 1 a l.length (l.map (Value.int .i64)) := by
  refine ⟨by simp, fun hn => ?_⟩
  obtain ⟨b, o, rfl, hb, _⟩ := h 0 hn
  refine ⟨_, rfl, hb, fun j u hu => ?_⟩
  have hj : j < l.length := by
    have := (List.getElem?_eq_some_iff.1 hu).1
    simpa using this
  obtain ⟨b', o', hab, _, hc⟩ := h j hj
  cases hab
  rw [List.getElem?_map, nth_get? l j hj] at hu
  have e : (⟨b, o, none⟩ : Addr).add j = ⟨b, o + j, none⟩ := by unfold Addr.add; split <;> simp_all
  rw [e, hc]; exact hu
theorem ints_one (l : List Int) : ∀ u ∈ l.map (Value.int .i64), u.oneCell' = true := by
  intro u hu
  obtain ⟨x, _, rfl⟩ := List.mem_map.1 hu
  rfl
theorem intInfo' : ∃ i0, Tryz.prog.info? 2 = some i0 ∧ i0.zero = some (.int .i64 0) ∧ i0.size = 1 ∧ i0.bytes = 8 := by
  obtain ⟨i0, h1, h2, h3, h4⟩ := info_parts (show (Tryz.prog.info? 2).map (fun i => (i.zero, i.size, i.bytes)) = some (some (.int .i64 0), 1, 8) by kernel_rfl)
  exact ⟨i0, h1, h2, h3, h4⟩
theorem slice_of_own {w : World} {base : Nat} {e : TypeId} {size : Nat} {v : Value} {n : Nat} {xs : List Value} (h : w.ownsRow base e size v n xs) : ∃ a c, v = .slice a n c := by
  rcases h.2 with ⟨rfl, rfl⟩ | ⟨g, cap, cur, rfl, _⟩
  · exact ⟨none, 0, rfl⟩
  · exact ⟨_, _, rfl⟩
/-- 'append(out, x)', 'append(out, xs...)' at numbers. -/
theorem wpList_app_ints {w : World} {ops : Array Oper} {rest : List Oper} {o : Oper} {a : Act} {Q : Exit → Act → World → Prop} (hgd : o.guard = none) (s x : Operand)
    (ho : o.op = .call { callee := .builtin .append, args := #[s, x], argTypes := #[25, 25] })
    (base : Nat) (v : Value) (l : List Int) (hs : a.eval s = v) (hown : OwnInts w base v l)
    (A : Option Addr) (m c : Nat) (t : List Int) (hx : a.eval x = .slice A m c) (hm : m = t.length) (hr : IntsC w A t)
    (hsz : l.length + t.length ≤ 1073741824) (hbase : base ≤ w.heap.size)
    (h : ∀ a' n' c' w', OwnInts w' base (.slice a' n' c') (l ++ t) → w.grownBy w' v.ownBlock → ((Value.slice a' n' c').ownBlock = v.ownBlock ∨ (Value.slice a' n' c').ownBlock = some w.heap.size) → n' = l.length + t.length → wpList Tryz.prog ops Q rest (a.put o.dst (.slice a' n' c')) w') : wpList Tryz.prog ops Q (o :: rest) a w := by
  obtain ⟨i0, h1, h2, h3, h4⟩ := intInfo'
  refine wpList_append_any w hgd s x 25 ho base 2 i0 _ 1 8 Tryz.underlying25 h1 h2 h3 h4 rfl (by decide) v l.length _ hs hown w.heap.size A m c (t.map (Value.int .i64)) hx (by rw [hm]; exact reads_ints hr) (ints_one t) (by rw [hm]; unfold maxLen; omega) (by rw [hm]; omega) hbase ?_
  intro v' w' hown' hg hb
  obtain ⟨a', c', rfl⟩ := slice_of_own hown'
  exact h a' _ c' w' (by unfold OwnInts; rw [List.map_append, List.length_append]; rw [hm] at hown'; rw [hm]; exact hown') hg hb (by rw [hm])
theorem ints_one_cell {w : World} {x : Int} {g : Nat} (hg : g < w.heap.size) (h : w.cell? ⟨g, 0, none⟩ = some (.int .i64 x)) : IntsC w (some ⟨g, 0, none⟩) [x] := by
  intro i hi
  obtain rfl : i = 0 := by simpa using hi
  exact ⟨g, 0, rfl, hg, by simpa [nth] using h⟩
theorem ints_new (w : World) (x : Int) (t : TypeId) : IntsC (w.alloc (.cells #[.int .i64 x] t)) (some ⟨w.heap.size, 0, none⟩) [x] :=
  ints_one_cell (by simp) (by rw [World.cell?_alloc_at _ _ _ _ rfl]; rfl)
/-- '[]int64{}'. -/
theorem own_empty (w : World) : OwnInts (w.alloc (.cells #[] 2)) w.heap.size (.slice (some ⟨w.heap.size, 0, none⟩) 0 0) [] :=
  World.ownsRow_lit w #[] 0 (Nat.le_refl _) (by decide) rfl
end Go.Proofs.YtcgbdhbdlnimhaaGreat

/- Pat: which lists of numbers are patterns, by both packages. -/
namespace Go.Proofs.YtcgbdhbdlnimhaaGreat
open Go.ChangeShapes Go.WideShapes Go.ChangeAt Go.RowKit

theorem l02List_c (v : Value) (l : List Int) (w : World) (hv : IntsAt w v l) :
    Calls Tryz.prog 95 #[v] w (Gives (.bool (throwsB l)) w) := by
  obtain ⟨a, n, cap, rfl, hn, hl, hm, hc⟩ := hv
  have Hc := Lib.hid hc; clear hc
  have Hn := Lib.hid hn; clear hn
  go_enter Tryz.func95, Tryz.ntmps95
  go_wp2
  go_loopw [3] (fun i wr => ∃ k : Nat, i = .int .i64 k ∧ k ≤ n ∧ Hid (throwsF l = throwsF (l.drop k)) ∧ Below w.heap.size w wr) (fun i _ => n - (intOf i).toNat)
  case atStart => exact ⟨0, rfl, Nat.zero_le _, Lib.hid rfl, Below.refl _ _⟩
  case round =>
    obtain ⟨k, rfl, hk, HS, hb⟩ := hrel
    by_cases hlt : k < n
    · obtain ⟨b, o, rfl, hbs, c0⟩ := (Hc.out.below hb) k (by rw [← Hn.out]; exact hlt)
      have HT := Lib.hid (HS.out.trans (throwsF_step l k (by rw [← Hn.out]; exact hlt)))
      clear HS
      have hq := l00In_c (nth l k) 0 15
      generalize inB (nth l k) 0 15 = bq at *
      cases bq
      · go_wp2_with (go_at_call 81; refine (hq _).mono ?_; rintro e w1 ⟨rfl, hb1⟩)
        go_ret
        exact Gives.bool (by unfold throwsB; rw [HT.out]; rfl) (bthen hb hb1)
      · go_wp2_with (go_at_call 81; refine (hq _).mono ?_; rintro e w1 ⟨rfl, hb1⟩)
        exact ⟨⟨k + 1, by go_num, hlt, HT, bthen hb hb1⟩, by simp [intOf]; omega⟩
    · have hq := l00In_c (n : Int) 1 12
      go_wp2_with (go_at_call 81; refine (hq _).mono ?_; rintro e w1 ⟨rfl, hb1⟩)
      go_ret
      exact Gives.bool (by unfold throwsB; rw [HS.out, drop_end l k n Hn.out (by omega), Hn.out]; rfl) (bthen hb hb1)
theorem areThrows_c (v : Value) (l : List Int) (w : World) (hv : IntsAt w v l) :
    Calls Tryz.prog 107 #[v] w (Gives (.bool (throwsB l)) w) := by
  obtain ⟨a, n, cap, rfl, hn, hl, hm, hc⟩ := hv
  have Hc := Lib.hid hc; clear hc
  have Hn := Lib.hid hn; clear hn
  go_enter Tryz.func107, Tryz.ntmps107
  go_wp2
  go_loopw [7] (fun i wr => ∃ k : Nat, i = .int .i64 k ∧ k ≤ n ∧ Hid (throwsF l = throwsF (l.drop k)) ∧ Below w.heap.size w wr) (fun i _ => n - (intOf i).toNat)
  case atStart => exact ⟨0, rfl, Nat.zero_le _, Lib.hid rfl, Below.refl _ _⟩
  case round =>
    obtain ⟨k, rfl, hk, HS, hb⟩ := hrel
    by_cases hlt : k < n
    · obtain ⟨b, o, rfl, hbs, c0⟩ := (Hc.out.below hb) k (by rw [← Hn.out]; exact hlt)
      have HT := Lib.hid (HS.out.trans (throwsF_step l k (by rw [← Hn.out]; exact hlt)))
      clear HS
      have hq := between_c (nth l k) 0 15
      generalize inB (nth l k) 0 15 = bq at *
      cases bq
      · go_wp2_with (go_at_call 79; refine (hq _).mono ?_; rintro e w1 ⟨rfl, hb1⟩)
        go_ret
        exact Gives.bool (by unfold throwsB; rw [HT.out]; rfl) (bthen hb hb1)
      · go_wp2_with (go_at_call 79; refine (hq _).mono ?_; rintro e w1 ⟨rfl, hb1⟩)
        exact ⟨⟨k + 1, by go_num, hlt, HT, bthen hb hb1⟩, by simp [intOf]; omega⟩
    · have hq := between_c (n : Int) 1 12
      go_wp2_with (go_at_call 79; refine (hq _).mono ?_; rintro e w1 ⟨rfl, hb1⟩)
      go_ret
      exact Gives.bool (by unfold throwsB; rw [HS.out, drop_end l k n Hn.out (by omega), Hn.out]; rfl) (bthen hb hb1)

theorem period_c (v : Value) (l : List Int) (w : World) (hv : IntsAt w v l) : Calls Tryz.prog 89 #[v] w (Gives (.int .i64 l.length) w) := by
  obtain ⟨a, n, cap, rfl, hn, hl, hm, hc⟩ := hv
  subst hn
  clear hc
  go_enter Tryz.func89, Tryz.ntmps89
  go_wp2
  go_ret
  exact Gives.int rfl (Below.refl _ _)

def landsL (l : List Int) : List Int := (List.range l.length).map (land l)
theorem landsL_len (l : List Int) : (landsL l).length = l.length := by simp [landsL]
theorem landsL_nth (l : List Int) (i : Nat) (h : i < l.length) : nth (landsL l) i = land l i := by
  rw [nth_eq _ _ (by rw [landsL_len]; exact h)]; simp [landsL]

theorem landings_c (v : Value) (l : List Int) (w : World) (hv : IntsAt w v l) (ht : throwsB l = true) :
    Calls Tryz.prog 108 #[v] w fun e w' => ∃ a n c, e = .returned (.slice a n c) ∧ OwnInts w' w.heap.size (.slice a n c) (landsL l) ∧ Below w.heap.size w w' := by
  have HA := Lib.hid hv
  obtain ⟨hth, h1, h12⟩ := throwsB_nth ht
  have Hth := Lib.hid hth; clear hth ht
  obtain ⟨a, n, cap, rfl, hn, hl, hm, hc⟩ := hv
  have Hc := Lib.hid hc; clear hc
  have Hn := Lib.hid hn
  have hn1 : 1 ≤ n := by omega
  have hn12 : n ≤ 12 := by omega
  clear hn h1 h12
  go_enter Tryz.func108, Tryz.ntmps108
  go_wp2
  go_loopw [3, 9] (fun s i wr => ∃ (k : Nat) (a' : Option Addr) (n' c' : Nat), i = .int .i64 k ∧ k ≤ n ∧ s = .slice a' n' c' ∧ Hid (OwnInts wr w.heap.size (.slice a' n' c') ((List.range k).map (land l))) ∧ Below w.heap.size w wr) (fun _ i _ => n - (intOf i).toNat)
  case atStart => exact ⟨0, _, _, _, rfl, Nat.zero_le _, rfl, Lib.hid (own_empty w), by go_grown⟩
  case round =>
    obtain ⟨k, a', n', c', rfl, hk, rfl, HO, hb⟩ := hrel
    by_cases hlt : k < n
    · obtain ⟨b, o, rfl, hbs, c0⟩ := (Hc.out.below hb) k (by rw [← Hn.out]; exact hlt)
      obtain ⟨hx0, hx15⟩ := Hth.out k (by rw [← Hn.out]; exact hlt)
      have HL : Hid (land l k = ((k : Int) + nth l k) % (n : Int)) := Lib.hid (by rw [Hn.out]; rfl)
      have HQ := Lib.hid (period_c _ l wr (HA.out.below hb))
      have hq : Calls Tryz.prog 89 #[.slice (some ⟨b, o, none⟩) n cap] wr (Gives (.int .i64 n) wr) := by have := HQ.out; rwa [← Hn.out] at this
      clear HQ
      have HQ := Lib.hid hq; clear hq
      generalize nth l k = x at *
      go_wp2_with fail
      refine HQ.out.mono ?_
      rintro e w1 ⟨rfl, hb1⟩
      have HO1 := Lib.hid (own_below HO.out hb1)
      clear HO
      have hsz := hb1.size
      have hsz0 := hb.size
      go_wp2_with (at_builtin; refine wpList_app_ints rfl _ _ rfl w.heap.size _ _ rfl (HO1.out.alloc _) _ _ _ [((k : Int) + x) % (n : Int)] rfl rfl (ints_new _ _ _) (by simp; omega) (by simp; omega) ?_)
      intro a2 n2 c2 w2 ho2 hg2 _ _
      have hb2 : Below w.heap.size w w2 := ((bthen hb hb1).alloc (by omega) _).grown hg2 (by simp; omega) (fun g hg => (World.ownsRow.lt HO1.out g hg).1)
      have HO2 : Hid (OwnInts w2 w.heap.size (.slice a2 n2 c2) ((List.range (k + 1)).map (land l))) := Lib.hid (by rw [List.range_succ, List.map_append, List.map_singleton, HL.out]; exact ho2)
      clear ho2 hg2 hb1 HO1 HL
      go_wp2
      exact ⟨⟨k + 1, a2, n2, c2, by go_num, hlt, rfl, HO2, hb2⟩, by simp [intOf]; omega⟩
    · obtain rfl : k = n := by omega
      have HO3 : Hid (OwnInts wr w.heap.size (.slice a' n' c') (landsL l)) := Lib.hid (by unfold landsL; rw [← Hn.out]; exact HO.out)
      clear HO
      go_wp2
      go_ret
      exact ⟨_, _, _, rfl, HO3.out, hb⟩

/-- What l02Clash hands back: a number below 0 just where no two throws land together. -/
def ClashPost (l : List Int) (w : World) (e : Ending) (w' : World) : Prop := ∃ i k : Int, e = .returned (.tuple #[.int .i64 i, .int .i64 k]) ∧ decide (i < 0) = clashFree l ∧ Below w.heap.size w w'

set_option maxHeartbeats 1000000 in
theorem l02Clash_c (v : Value) (l : List Int) (w : World) (hv : IntsAt w v l) (ht : throwsB l = true) :
    Calls Tryz.prog 96 #[v] w (ClashPost l w) := by
  obtain ⟨hth, h1, h12⟩ := throwsB_nth ht
  have Hth := Lib.hid hth; clear hth ht
  obtain ⟨a, n, cap, rfl, hn, hl, hm, hc⟩ := hv
  have Hc := Lib.hid hc; clear hc
  have Hn := Lib.hid hn
  have hn1 : 1 ≤ n := by omega
  have hn12 : n ≤ 12 := by omega
  clear hn h1 h12
  go_enter Tryz.func96, Tryz.ntmps96
  go_wp2
  go_loopw [5, 6] (fun i _ wr => ∃ k : Nat, i = .int .i64 k ∧ 1 ≤ k ∧ k ≤ n ∧ Hid (∀ j, j < k → rowFree l j = true) ∧ Below w.heap.size w wr) (fun i _ _ => n - (intOf i).toNat)
  case atStart => exact ⟨1, rfl, Nat.le_refl _, hn1, Lib.hid (fun j hj => by obtain rfl : j = 0 := by omega
                                                                             rfl), Below.refl _ _⟩
  case round =>
    obtain ⟨k, rfl, hk1, hk, HF, hb⟩ := hrel
    obtain ⟨wo, rfl⟩ : ∃ wo : World, wo = wr := ⟨_, rfl⟩
    by_cases hlt : k < n
    · go_wp2
      go_loopw [6] (fun i wr => ∃ m : Nat, i = .int .i64 m ∧ m ≤ k ∧ Hid (∀ j, j < m → land l j ≠ land l k) ∧ Below w.heap.size w wr) (fun i _ => k - (intOf i).toNat)
      case atStart => exact ⟨0, rfl, Nat.zero_le _, Lib.hid (fun j hj => absurd hj (Nat.not_lt_zero _)), hb⟩
      case round =>
        obtain ⟨m, rfl, hmk, HM, hb2⟩ := hrel
        by_cases hltm : m < k
        · obtain ⟨b, o, rfl, hbs, c0⟩ := (Hc.out.below hb2) k (by rw [← Hn.out]; exact hlt)
          obtain ⟨b', o', hab, hbs', d0⟩ := (Hc.out.below hb2) m (by rw [← Hn.out]; omega)
          cases hab
          obtain ⟨hx0, hx15⟩ := Hth.out k (by rw [← Hn.out]; exact hlt)
          obtain ⟨hy0, hy15⟩ := Hth.out m (by rw [← Hn.out]; omega)
          have HL : Hid (land l k = ((k : Int) + nth l k) % (n : Int)) := Lib.hid (by rw [Hn.out]; rfl)
          have HL' : Hid (land l m = ((m : Int) + nth l m) % (n : Int)) := Lib.hid (by rw [Hn.out]; rfl)
          generalize nth l k = x at *
          generalize nth l m = y at *
          have s1 : IntKind.i64.wrap ((k : Int) + x) = (k : Int) + x := IntWalk.i64_in _ (by omega)
          have s2 : IntKind.i64.wrap ((m : Int) + y) = (m : Int) + y := IntWalk.i64_in _ (by omega)
          have p1 : 0 ≤ (k : Int) + x := by omega
          have p2 : 0 ≤ (m : Int) + y := by omega
          have r1 : ((k : Int) + x).tmod (n : Int) = ((k : Int) + x) % (n : Int) := Int.tmod_eq_emod_of_nonneg p1
          have r2 : ((m : Int) + y).tmod (n : Int) = ((m : Int) + y) % (n : Int) := Int.tmod_eq_emod_of_nonneg p2
          have hn0 : ((n : Int) == 0) = false := beq_eq_false_iff_ne.2 (by omega)
          have hE : (((m : Int) + y) % (n : Int) == ((k : Int) + x) % (n : Int)) = (land l m == land l k) := by rw [HL.out, HL'.out]
          have HE := Lib.hid hE; clear hE
          have hE := HE.out
          generalize hq : (land l m == land l k) = bq at hE
          cases bq
          · have HN : Hid (∀ j, j < m + 1 → land l j ≠ land l k) := Lib.hid (fun j hj => by
              by_cases hjm : j < m
              · exact HM.out j hjm
              · obtain rfl : j = m := by omega
                simpa using hq)
            clear hq HE HM HL HL'
            go_wp2
            go_quiet (fail)
            clear s1 s2 p1 p2 r1 r2 hE hn0
            go_wp2
            exact ⟨⟨m + 1, by go_num, hltm, HN, below_drewN hb2 _⟩, by simp [intOf]; omega⟩
          · have HN : Hid (clashFree l = false) := Lib.hid (clashFree_false (by rw [← Hn.out]; exact hlt) (rowFree_false hltm (by simpa using hq)))
            clear hq HE HM HL HL'
            go_wp2
            go_quiet (fail)
            clear s1 s2 p1 p2 r1 r2 hE hn0
            go_wp2
            go_ret2
            exact ⟨m, k, rfl, by rw [HN.out]; exact decide_eq_false (by omega), below_drewN hb2 _⟩
        · obtain rfl : m = k := by omega
          have HN : Hid (∀ j, j < m + 1 → rowFree l j = true) := Lib.hid (fun j hj => by
            by_cases hjm : j < m
            · exact HF.out j hjm
            · obtain rfl : j = m := by omega
              exact (rowFree_iff l j).2 HM.out)
          clear HM HF
          go_wp2
          exact ⟨⟨m + 1, by go_num, by omega, hlt, HN, hb2⟩, by simp [intOf]; omega⟩
    · obtain rfl : k = n := by omega
      have HN : Hid (clashFree l = true) := Lib.hid ((clashFree_iff l).2 (fun j hj => HF.out j (by rw [Hn.out]; exact hj)))
      clear HF
      go_wp2
      go_ret2
      exact ⟨-1, -1, rfl, by rw [HN.out]; rfl, hb⟩

theorem l02Ok_c (v : Value) (l : List Int) (w : World) (hv : IntsAt w v l) :
    Calls Tryz.prog 56 #[v] w (Gives (.bool (okPat l)) w) := by
  have HV := Lib.hid hv; clear hv
  have hq := l02List_c v l w HV.out
  cases hE : throwsB l
  · rw [hE] at hq
    have HR : Hid (okPat l = false) := Lib.hid (by unfold okPat; rw [hE]; rfl)
    clear hE
    go_enter Tryz.func56, Tryz.ntmps56
    go_wp2_with fail
    refine hq.mono ?_
    rintro e w1 ⟨rfl, hb1⟩
    go_wp2
    go_ret
    exact Gives.bool HR.out hb1
  · have HQ2 := Lib.hid (fun W a => l02Clash_c v l W a hE)
    rw [hE] at hq
    have HR : Hid (okPat l = clashFree l) := Lib.hid (by unfold okPat; rw [hE]; rfl)
    clear hE
    go_enter Tryz.func56, Tryz.ntmps56
    go_wp2_with fail
    refine hq.mono ?_
    rintro e w1 ⟨rfl, hb1⟩
    go_wp2_with fail
    refine (HQ2.out w1 (HV.out.below hb1)).mono ?_
    rintro e w2 ⟨i, k, rfl, hd, hb2⟩
    have HD := Lib.hid hd
    go_wp2
    go_ret
    exact Gives.bool (by rw [HR.out]) (bthen hb1 hb2)

/-- What CollisionOf hands back: code 0 just at a pattern. -/
def CollPost (l : List Int) (w : World) (e : Ending) (w' : World) : Prop := ∃ i k c : Int, e = .returned (.tuple #[.int .i64 i, .int .i64 k, .int .i64 c]) ∧ (c == 0) = okPat l ∧ Below w.heap.size w w'

set_option maxHeartbeats 1000000 in
theorem collisionOf_c (v : Value) (l : List Int) (w : World) (hv : IntsAt w v l) :
    Calls Tryz.prog 86 #[v] w (CollPost l w) := by
  have HV := Lib.hid hv; clear hv
  have hq := areThrows_c v l w HV.out
  cases hE : throwsB l
  · rw [hE] at hq
    have HR : Hid (okPat l = false) := Lib.hid (by unfold okPat; rw [hE]; rfl)
    clear hE
    go_enter Tryz.func86, Tryz.ntmps86
    go_wp2_with fail
    refine hq.mono ?_
    rintro e w1 ⟨rfl, hb1⟩
    go_wp2
    go_ret3
    exact ⟨0, 0, 1, rfl, HR.out.symm, hb1⟩
  · have HQ2 := Lib.hid (fun W a => landings_c v l W a hE)
    obtain ⟨_, hl1, hl12⟩ := throwsB_nth hE
    rw [hE] at hq
    have HR : Hid (okPat l = clashFree l) := Lib.hid (by unfold okPat; rw [hE]; rfl)
    clear hE
    go_enter Tryz.func86, Tryz.ntmps86
    go_wp2_with fail
    refine hq.mono ?_
    rintro e w1 ⟨rfl, hb1⟩
    go_wp2_with fail
    refine (HQ2.out w1 (HV.out.below hb1)).mono ?_
    rintro e w2 ⟨a, n, cap, rfl, ho, hb2'⟩
    have hb2 := bthen hb1 hb2'
    obtain ⟨ax, nx, capx, he, hn, hl, hm, hc⟩ := ho.at
    cases he
    rw [landsL_len] at hn
    have Hc := Lib.hid hc; clear hc
    have Hn := Lib.hid hn
    clear ho hb1 hb2' hq
    have hn12 : n ≤ 12 := by omega
    clear hn hl1 hl12
    go_wp2
    go_loopw [6, 7, 15] (fun _ _ i wr => ∃ k : Nat, i = .int .i64 k ∧ k ≤ n ∧ Hid (∀ j, j < k → rowFree l j = true) ∧ Below w.heap.size w wr ∧ Below w2.heap.size w2 wr) (fun _ _ i _ => n - (intOf i).toNat)
    case atStart => exact ⟨0, rfl, Nat.zero_le _, Lib.hid (fun j hj => absurd hj (Nat.not_lt_zero _)), hb2, Below.refl _ _⟩
    case round =>
      obtain ⟨k, rfl, hk, HF, hb, hbw⟩ := hrel
      obtain ⟨wo, rfl⟩ : ∃ wo : World, wo = wr := ⟨_, rfl⟩
      clear hb2
      by_cases hlt : k < n
      · go_wp2
        go_loopw [7, 19] (fun _ i wr => ∃ m : Nat, i = .int .i64 m ∧ m ≤ k ∧ Hid (∀ j, j < m → land l j ≠ land l k) ∧ Below w.heap.size w wr ∧ Below w2.heap.size w2 wr) (fun _ i _ => k - (intOf i).toNat)
        case atStart => exact ⟨0, rfl, Nat.zero_le _, Lib.hid (fun j hj => absurd hj (Nat.not_lt_zero _)), hb, hbw⟩
        case round =>
          obtain ⟨m, rfl, hmk, HM, hb2, hbw2⟩ := hrel
          by_cases hltm : m < k
          · obtain ⟨b, o, rfl, hbs, c0⟩ := (Hc.out.below hbw2) k (by rw [landsL_len, ← Hn.out]; exact hlt)
            obtain ⟨b', o', hab, hbs', d0⟩ := (Hc.out.below hbw2) m (by rw [landsL_len, ← Hn.out]; omega)
            cases hab
            rw [landsL_nth l k (by rw [← Hn.out]; exact hlt)] at c0
            rw [landsL_nth l m (by rw [← Hn.out]; omega)] at d0
            cases hq : (land l m == land l k)
            · have HN : Hid (∀ j, j < m + 1 → land l j ≠ land l k) := Lib.hid (fun j hj => by
                by_cases hjm : j < m
                · exact HM.out j hjm
                · obtain rfl : j = m := by omega
                  simpa using hq)
              clear HM
              go_wp2
              go_quiet (fail)
              clear hq
              go_wp2
              exact ⟨⟨m + 1, by go_num, hltm, HN, below_drewN hb2 _, below_drewN hbw2 _⟩, by simp [intOf]; omega⟩
            · have HN : Hid (clashFree l = false) := Lib.hid (clashFree_false (by rw [← Hn.out]; exact hlt) (rowFree_false hltm (by simpa using hq)))
              clear HM
              go_wp2
              go_quiet (fail)
              clear hq
              go_wp2
              go_ret3
              exact ⟨m, k, 9, rfl, by rw [HR.out, HN.out]; rfl, below_drewN hb2 _⟩
          · obtain rfl : m = k := by omega
            have HN : Hid (∀ j, j < m + 1 → rowFree l j = true) := Lib.hid (fun j hj => by
              by_cases hjm : j < m
              · exact HF.out j hjm
              · obtain rfl : j = m := by omega
                exact (rowFree_iff l j).2 HM.out)
            clear HM HF
            go_wp2
            exact ⟨⟨m + 1, by go_num, hlt, HN, hb2, hbw2⟩, by simp [intOf]; omega⟩
      · obtain rfl : k = n := by omega
        have HN : Hid (clashFree l = true) := Lib.hid ((clashFree_iff l).2 (fun j hj => HF.out j (by rw [Hn.out]; exact hj)))
        clear HF
        go_wp2
        go_ret3
        exact ⟨-1, -1, 0, rfl, by rw [HR.out, HN.out]; rfl, hb⟩

theorem validPattern_c (v : Value) (l : List Int) (w : World) (hv : IntsAt w v l) :
    Calls Tryz.prog 47 #[v] w (Gives (.bool (okPat l)) w) := by
  have HQ := Lib.hid (collisionOf_c v l w hv); clear hv
  go_enter Tryz.func47, Tryz.ntmps47
  go_wp2_with fail
  refine HQ.out.mono ?_
  rintro e w1 ⟨i, k, c, rfl, hd, hb1⟩
  have HD := Lib.hid hd
  go_wp2
  go_ret
  exact Gives.bool rfl hb1
end Go.Proofs.YtcgbdhbdlnimhaaGreat
