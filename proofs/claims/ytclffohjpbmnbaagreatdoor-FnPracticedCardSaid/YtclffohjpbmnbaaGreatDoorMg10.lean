import Derived.Test.YtclffohjpbmnbaaGreatDoorMg9
import Derived.Test.YtclffohjpbmnbaaGreatDoorMg2
import Derived.Test.YtclffohjpbmnbaaGreatDoorMg6
/- CanRot: plain: a canonical form is that of all rotations, and its own. -/
namespace Go.Proofs.YtclffohjpbmnbaaGreatDoor
open Go.RowKit

theorem nth_takeC {α : Type} [Inhabited α] (l : List α) (k i : Nat) (h : i < k) (hk : k ≤ l.length) : nth (l.take k) i = nth l i := by
  rw [nth_eq _ _ (by rw [List.length_take]; omega), nth_eq _ _ (by omega), List.getElem_take]
theorem ext_nth {l m : List Int} (h1 : l.length = m.length) (h : ∀ i, i < l.length → nth l i = nth m i) : l = m := by
  apply List.ext_getElem h1
  intro i a b
  have := h i a
  rwa [nth_eq _ _ a, nth_eq _ _ b] at this
theorem isRoot_mod {l : List Int} {k : Nat} (h0 : 0 < k) (hk : k ≤ l.length) : isRoot l k = true ↔ l.length % k = 0 ∧ ∀ i, i < l.length → nth l i = nth l (i % k) := by
  have hT : (l.take k).length = k := by rw [List.length_take]; omega
  unfold isRoot
  rw [Bool.and_eq_true, decide_eq_true_eq, same2_iff eqI eqI_iff]
  constructor
  · rintro ⟨h1, h2⟩
    refine ⟨h1, fun i hi => ?_⟩
    have hm : l.length / k * k = l.length := Nat.div_mul_cancel (Nat.dvd_of_mod_eq_zero h1)
    have := nth_rep (l.take k) (by omega) (l.length / k) i (by rw [hT, hm]; exact hi)
    rw [h2, hT, nth_takeC l k _ (Nat.mod_lt _ h0) hk] at this
    exact this
  · rintro ⟨h1, h2⟩
    refine ⟨h1, ?_⟩
    have hm : l.length / k * k = l.length := Nat.div_mul_cancel (Nat.dvd_of_mod_eq_zero h1)
    refine ext_nth (by rw [repL_len, hT, hm]) (fun i hi => ?_)
    rw [repL_len, hT] at hi
    rw [nth_rep (l.take k) (by omega) (l.length / k) i (by rw [hT]; exact hi), hT, nth_takeC l k _ (Nat.mod_lt _ h0) hk]
    exact (h2 i (by omega)).symm
theorem isRoot_shift {l : List Int} {k : Nat} (h0 : 0 < k) (hk : k ≤ l.length) : isRoot l k = true ↔ l.length % k = 0 ∧ ∀ i, i < l.length → nth l ((i + k) % l.length) = nth l i := by
  rw [isRoot_mod h0 hk]
  constructor
  · rintro ⟨h1, h2⟩
    refine ⟨h1, fun i hi => ?_⟩
    rw [h2 _ (Nat.mod_lt _ (by omega)), Nat.mod_mod_of_dvd _ (Nat.dvd_of_mod_eq_zero h1), Nat.add_mod_right, ← h2 i hi]
  · rintro ⟨h1, h2⟩
    refine ⟨h1, ?_⟩
    intro i
    induction i using Nat.strongRecOn with
    | ind i ih =>
      intro hi
      by_cases h : i < k
      · rw [Nat.mod_eq_of_lt h]
      · have h3 := ih (i - k) (by omega) (by omega)
        have h4 := h2 (i - k) (by omega)
        rw [Nat.sub_add_cancel (by omega), Nat.mod_eq_of_lt hi] at h4
        rw [h4, h3]
        congr 1
        rw [← Nat.mod_eq_sub_mod (by omega)]
theorem nth_rotL (l : List Int) (k i : Nat) (hi : i < l.length) : nth (rotL l k) i = nth l ((i + k) % l.length) := nth_rot l k i hi
theorem rotL_rotL (l : List Int) (a b : Nat) : rotL (rotL l a) b = rotL l (a + b) := by
  refine ext_nth (by rw [rotL_len, rotL_len, rotL_len]) (fun i hi => ?_)
  rw [rotL_len, rotL_len] at hi
  rw [nth_rotL _ _ _ (by rw [rotL_len]; exact hi), nth_rotL _ _ _ hi, rotL_len, nth_rotL _ _ _ (Nat.mod_lt _ (by omega)), Nat.mod_add_mod]
  congr 2; omega
theorem rotL_mod (l : List Int) (k : Nat) : rotL l (k % l.length) = rotL l k := by
  refine ext_nth (by rw [rotL_len, rotL_len]) (fun i hi => ?_)
  rw [rotL_len] at hi
  rw [nth_rotL _ _ _ hi, nth_rotL _ _ _ hi, Nat.add_mod_mod]
theorem rotL_back (l : List Int) (k : Nat) : rotL (rotL l k) (l.length - k % l.length) = l := by
  rcases Nat.eq_zero_or_pos l.length with h | h
  · have : l = [] := List.eq_nil_of_length_eq_zero h
    subst this; rfl
  · have hlt := Nat.mod_lt k h
    rw [rotL_rotL, ← rotL_mod]
    have : (k + (l.length - k % l.length)) % l.length = 0 := by
      have e := Nat.div_add_mod k l.length
      have : k + (l.length - k % l.length) = l.length * (k / l.length + 1) := by rw [Nat.mul_add, Nat.mul_one]; omega
      rw [this]; exact Nat.mul_mod_right _ _
    rw [this, rotL_zero]
theorem isRoot_rot1 {l : List Int} {k : Nat} (h0 : 0 < k) (hk : k ≤ l.length) (h : isRoot l k = true) (j : Nat) : isRoot (rotL l j) k = true := by
  rw [isRoot_shift h0 (by rw [rotL_len]; exact hk), rotL_len]
  obtain ⟨h1, h2⟩ := (isRoot_shift h0 hk).1 h
  refine ⟨h1, fun i hi => ?_⟩
  rw [nth_rotL _ _ _ (Nat.mod_lt _ (by omega)), nth_rotL _ _ _ hi, Nat.mod_add_mod]
  have := h2 ((i + j) % l.length) (Nat.mod_lt _ (by omega))
  rw [Nat.mod_add_mod] at this
  rw [← this]
  congr 2; omega
theorem isRoot_rot {l : List Int} {k : Nat} (h0 : 0 < k) (hk : k ≤ l.length) (j : Nat) : isRoot (rotL l j) k = isRoot l k := by
  cases h : isRoot l k
  · cases h2 : isRoot (rotL l j) k
    · rfl
    · have := isRoot_rot1 h0 (by rw [rotL_len]; exact hk) h2 (l.length - j % l.length)
      rw [rotL_back, h] at this
      exact absurd this (by decide)
  · exact isRoot_rot1 h0 hk h j
theorem least_of {p : Nat → Bool} : ∀ (n : Nat), p n = true → ∃ m, m ≤ n ∧ p m = true ∧ ∀ j, j < m → p j = false := by
  intro n
  induction n using Nat.strongRecOn with
  | ind n ih =>
    intro h
    by_cases h2 : ∃ j, j < n ∧ p j = true
    · obtain ⟨j, hj, hp⟩ := h2
      obtain ⟨m, h3, h4, h5⟩ := ih j hj hp
      exact ⟨m, by omega, h4, h5⟩
    · refine ⟨n, Nat.le_refl _, h, fun j hj => ?_⟩
      cases hp : p j
      · rfl
      · exact absurd ⟨j, hj, hp⟩ h2
theorem rootK_min (l : List Int) {j : Nat} (h1 : 1 ≤ j) (h2 : j < rootK l) : isRoot l j = false := by
  cases h : isRoot l j
  · rfl
  · obtain ⟨m, hm1, hm2, hm3⟩ := least_of (p := fun i => decide (1 ≤ i) && isRoot l i) j (by simp [h1, h])
    simp only [Bool.and_eq_true, decide_eq_true_eq] at hm2
    have hle := rootK_le l
    have := rootK_of l m hm2.1 (by omega) hm2.2 (fun i hi hi2 => by
      have := hm3 i hi2
      simpa [hi] using this)
    omega
theorem rootK_uniq (l : List Int) {k : Nat} (h1 : 1 ≤ k) (hk : k ≤ l.length) (hr : isRoot l k = true) (hm : ∀ j, 1 ≤ j → j < k → isRoot l j = false) : rootK l = k := by
  rcases Nat.lt_or_ge k l.length with h | h
  · exact rootK_of l k h1 h hr hm
  · have e : k = l.length := by omega
    rw [e]
    exact rootK_all l (fun j a b => hm j a (by omega))
theorem rootK_rot (l : List Int) (h : 0 < l.length) (j : Nat) : rootK (rotL l j) = rootK l := by
  have hp := rootK_pos l h
  have hle := rootK_le l
  refine rootK_uniq _ hp (by rw [rotL_len]; exact hle) ?_ (fun i a b => ?_)
  · rw [isRoot_rot hp hle]; exact isRoot_rootK l h
  · rw [isRoot_rot a (by omega)]; exact rootK_min l a b
theorem nth_rootL (l : List Int) (h : 0 < l.length) (i : Nat) (hi : i < l.length) : nth l i = nth (rootL l) (i % rootK l) := by
  have hp := rootK_pos l h
  have hle := rootK_le l
  have := ((isRoot_mod hp hle).1 (isRoot_rootK l h)).2 i hi
  rw [this]
  unfold rootL
  rw [nth_takeC l _ _ (Nat.mod_lt _ hp) hle]
theorem rootL_rot (l : List Int) (h : 0 < l.length) (j : Nat) : rootL (rotL l j) = rotL (rootL l) j := by
  have hp := rootK_pos l h
  have hle := rootK_le l
  have hd := ((isRoot_mod hp hle).1 (isRoot_rootK l h)).1
  refine ext_nth (by rw [rootL_len, rotL_len, rootL_len, rootK_rot l h]) (fun i hi => ?_)
  rw [rootL_len, rootK_rot l h] at hi
  rw [nth_rotL _ _ _ (by rw [rootL_len]; exact hi), rootL_len]
  have h1 := nth_rootL (rotL l j) (by rw [rotL_len]; exact h) i (by rw [rotL_len]; omega)
  rw [rootK_rot l h, Nat.mod_eq_of_lt hi] at h1
  rw [← h1, nth_rotL _ _ _ (by omega), nth_rootL l h _ (Nat.mod_lt _ h), Nat.mod_mod_of_dvd _ (Nat.dvd_of_mod_eq_zero hd)]
theorem rootK_root (l : List Int) (h : 0 < l.length) : rootK (rootL l) = rootK l := by
  have hp := rootK_pos l h
  have hle := rootK_le l
  have hd := ((isRoot_mod hp hle).1 (isRoot_rootK l h)).1
  have hl := rootL_len l
  conv => rhs; rw [← hl]
  refine rootK_all _ (fun j a b => ?_)
  rw [hl] at b
  cases hj : isRoot (rootL l) j
  · rfl
  · have h1 := (isRoot_mod (by omega) (by rw [hl]; omega)).1 hj
    rw [hl] at h1
    have : isRoot l j = true := by
      rw [isRoot_mod (by omega) (by omega)]
      refine ⟨Nat.mod_eq_zero_of_dvd (Nat.dvd_trans (Nat.dvd_of_mod_eq_zero h1.1) (Nat.dvd_of_mod_eq_zero hd)), fun i hi => ?_⟩
      rw [nth_rootL l h i hi, h1.2 _ (Nat.mod_lt _ hp), Nat.mod_mod_of_dvd _ (Nat.dvd_of_mod_eq_zero h1.1), nth_rootL l h (i % j) (by have := Nat.mod_lt i (show 0 < j by omega); omega)]
      rw [Nat.mod_eq_of_lt (show i % j < rootK l by have := Nat.mod_lt i (show 0 < j by omega); omega)]
    rw [rootK_min l a b] at this
    exact absurd this (by decide)
theorem rootL_root (l : List Int) (h : 0 < l.length) : rootL (rootL l) = rootL l := by
  have e : rootL (rootL l) = (rootL l).take (rootK (rootL l)) := rfl
  rw [e, rootK_root l h, List.take_of_length_le]
  rw [rootL_len]; exact Nat.le_refl _
/-! ### The greatest rotation -/
theorem cmp_not_lt {a b : List Int} (h1 : ¬ 0 < cmpL a b) (h2 : ¬ 0 < cmpL b a) : a = b := cmpL_zero (by have := cmpL_swp a b; omega)
theorem cmp_le_trans {a b c : List Int} (h1 : ¬ 0 < cmpL a b) (h2 : ¬ 0 < cmpL b c) : ¬ 0 < cmpL a c := by
  intro h
  have e1 := cmpL_swp a b
  have e2 := cmpL_swp b c
  have e3 := cmpL_swp a c
  by_cases hz : cmpL a b = 0
  · rw [cmpL_zero hz] at h; exact h2 h
  · by_cases hy : cmpL b c = 0
    · rw [← cmpL_zero hy] at h; exact h1 h
    · have := cmpL_lt_trans (a := a) (b := b) (c := c) (by omega) (by omega)
      omega
theorem fold_max (r : List Int) : ∀ (ks : List Nat) (best : List Int), (∃ j, best = rotL r j) →
    (∃ j, ks.foldl (canStep r) best = rotL r j) ∧ ¬ 0 < cmpL best (ks.foldl (canStep r) best) ∧ ∀ k ∈ ks, ¬ 0 < cmpL (rotL r k) (ks.foldl (canStep r) best)
  | [], best, h => ⟨h, by rw [List.foldl_nil, cmpL_self]; omega, fun k hk => absurd hk List.not_mem_nil⟩
  | k :: ks, best, h => by
    rw [List.foldl_cons]
    have hs : (∃ j, canStep r best k = rotL r j) ∧ ¬ 0 < cmpL best (canStep r best k) ∧ ¬ 0 < cmpL (rotL r k) (canStep r best k) := by
      unfold canStep
      split
      · rename_i hc
        exact ⟨⟨k, rfl⟩, by have := cmpL_swp best (rotL r k); omega, by rw [cmpL_self]; omega⟩
      · rename_i hc
        exact ⟨h, by rw [cmpL_self]; omega, hc⟩
    obtain ⟨h1, h2, h3⟩ := fold_max r ks (canStep r best k) hs.1
    refine ⟨h1, cmp_le_trans hs.2.1 h2, fun i hi => ?_⟩
    rcases List.mem_cons.1 hi with rfl | hi
    · exact cmp_le_trans hs.2.2 h2
    · exact h3 i hi
theorem can_max (l : List Int) (h : 0 < l.length) : (∃ j, canL l = rotL (rootL l) j) ∧ ∀ k, ¬ 0 < cmpL (rotL (rootL l) k) (canL l) := by
  obtain ⟨h1, -, h3⟩ := fold_max (rootL l) (List.range' 0 (rootK l)) (rootL l) ⟨0, (rotL_zero _).symm⟩
  rw [← canL_zero l h] at h1 h3
  refine ⟨h1, fun k => ?_⟩
  have hp := rootK_pos l h
  rw [← rotL_mod, rootL_len]
  exact h3 _ (List.mem_range'_1.2 ⟨Nat.zero_le _, by have := Nat.mod_lt k hp; omega⟩)
theorem can_uniq {l m : List Int} (hl : 0 < l.length) (hm : 0 < m.length) {j : Nat} (h : rootL m = rotL (rootL l) j) : canL m = canL l := by
  obtain ⟨⟨a, ha⟩, h1⟩ := can_max l hl
  obtain ⟨⟨b, hb⟩, h2⟩ := can_max m hm
  refine cmp_not_lt ?_ ?_
  · rw [hb, h, rotL_rotL]; exact h1 _
  · rw [ha, ← rotL_back (rootL l) j, ← h, rotL_rotL]; exact h2 _
/-- A rotation has the canonical form of the whole. -/
theorem can_rot (l : List Int) (h : 0 < l.length) (j : Nat) : canL (rotL l j) = canL l := can_uniq h (by rw [rotL_len]; exact h) (rootL_rot l h j)
theorem can_root (l : List Int) (h : 0 < l.length) : canL (rootL l) = canL l :=
  can_uniq h (by rw [rootL_len]; exact rootK_pos l h) (j := 0) (by rw [rootL_root l h, rotL_zero])
/-- A canonical form is its own. -/
theorem can_can (l : List Int) (h : 0 < l.length) : canL (canL l) = canL l := by
  obtain ⟨⟨a, ha⟩, -⟩ := can_max l h
  have hr : 0 < (rootL l).length := by rw [rootL_len]; exact rootK_pos l h
  rw [ha, can_rot _ hr, can_root l h, ha]
end Go.Proofs.YtclffohjpbmnbaaGreatDoor

/- Strs: slices of texts: what the walks say of them; whether two are the same. -/
namespace Go.Proofs.YtclffohjpbmnbaaGreatDoor
open Go.ChangeShapes Go.WideShapes Go.ChangeAt Go.RowKit

instance : Inhabited ByteArray := ⟨ByteArray.empty⟩
def StrsC (w : World) (a : Option Addr) (l : List ByteArray) : Prop :=
  ∀ i, i < l.length → ∃ b o, a = some ⟨b, o, none⟩ ∧ b < w.heap.size ∧ w.cell? ⟨b, o + i, none⟩ = some (.string (nth l i))
def StrsAt (w : World) (v : Value) (l : List ByteArray) : Prop := ∃ a n cap, v = .slice a n cap ∧ n = l.length ∧ n ≤ cap ∧ cap ≤ 9223372036854775807 ∧ StrsC w a l
theorem StrsC.below {w w' : World} {a : Option Addr} {l : List ByteArray} (h : StrsC w a l) (hb : Below w.heap.size w w') : StrsC w' a l := by
  intro i hi
  obtain ⟨b, o, ha, hs, c0⟩ := h i hi
  exact ⟨b, o, ha, Nat.lt_of_lt_of_le hs hb.size, (hb.cell (p := ⟨b, _, none⟩) hs).trans c0⟩
theorem StrsAt.below {w w' : World} {v : Value} {l : List ByteArray} (h : StrsAt w v l) (hb : Below w.heap.size w w') : StrsAt w' v l := by
  obtain ⟨a, n, cap, rfl, h1, h2, h3, hc⟩ := h
  exact ⟨a, n, cap, rfl, h1, h2, h3, hc.below hb⟩
def OwnStrs (w : World) (base : Nat) (v : Value) (l : List ByteArray) : Prop := w.ownsRow base 9 1 v l.length (l.map Value.string)
theorem OwnStrs.at {w : World} {base : Nat} {v : Value} {l : List ByteArray} (h : OwnStrs w base v l) : StrsAt w v l := by
  have ho : w.ownsRow base 9 1 v l.length (l.map Value.string) := h
  have hlt := ho.lt
  rcases ho.2 with ⟨rfl, h0⟩ | ⟨g, cap, cur, rfl, hb, hg, hnc, hcm, hcs, htake⟩
  · exact ⟨none, 0, 0, rfl, h0.symm, Nat.le_refl _, by decide, fun i hi => by omega⟩
  · refine ⟨_, _, _, rfl, rfl, hnc, hcm, fun i hi => ⟨g, 0, rfl, (hlt g rfl).2, ?_⟩⟩
    have := ho.cellAt i (by omega)
    rw [Nat.zero_add, this, List.getElem?_map, nth_get? l i hi]; rfl
theorem strInfo : (Tryz.prog.info? 9).map (fun i => (i.zero, i.size, i.bytes)) = some (some (.string ByteArray.empty), 1, 16) := by kernel_rfl
theorem strs_one (l : List ByteArray) : ∀ u ∈ l.map Value.string, u.oneCell' = true := by
  intro u hu
  obtain ⟨x, _, rfl⟩ := List.mem_map.1 hu
  rfl
theorem reads_strs {w : World} {a : Option Addr} {l : List ByteArray} (h : StrsC w a l) : Reads w w.heap.size 1 a l.length (l.map Value.string) := by
  refine ⟨by simp, fun hn => ?_⟩
  obtain ⟨b, o, rfl, hb, _⟩ := h 0 hn
  refine ⟨_, rfl, hb, fun j u hu => ?_⟩
  have hj : j < l.length := by
    have := (List.getElem?_eq_some_iff.1 hu).1
    simpa using this
  obtain ⟨b', o', hab, _, hc⟩ := h j hj
  cases hab
  rw [List.getElem?_map, nth_get? l j hj] at hu
  have e : (⟨b, o, none⟩ : Addr).add j = ⟨b, o + j, none⟩ := by unfold Addr.add; split <;> simp_all
  rw [e, hc]; exact hu
/-- 'append(out, s)', 'append(out, ss...)' at texts. -/
theorem wpList_app_strs {w : World} {ops : Array Oper} {rest : List Oper} {o : Oper} {a : Act} {Q : Exit → Act → World → Prop} (hgd : o.guard = none) (s x : Operand)
    (ho : o.op = .call { callee := .builtin .append, args := #[s, x], argTypes := #[88, 88] })
    (base : Nat) (v : Value) (l : List ByteArray) (hs : a.eval s = v) (hown : OwnStrs w base v l)
    (A : Option Addr) (m c : Nat) (t : List ByteArray) (hx : a.eval x = .slice A m c) (hm : m = t.length) (hr : StrsC w A t)
    (hsz : l.length + t.length ≤ 1073741824) (hbase : base ≤ w.heap.size)
    (h : ∀ a' n' c' w', OwnStrs w' base (.slice a' n' c') (l ++ t) → w.grownBy w' v.ownBlock → ((Value.slice a' n' c').ownBlock = v.ownBlock ∨ (Value.slice a' n' c').ownBlock = some w.heap.size) → n' = l.length + t.length → wpList Tryz.prog ops Q rest (a.put o.dst (.slice a' n' c')) w') : wpList Tryz.prog ops Q (o :: rest) a w := by
  obtain ⟨i0, h1, h2, h3, h4⟩ := info_parts strInfo
  refine wpList_append_any w hgd s x 88 ho base 9 i0 _ 1 16 Tryz.underlying88 h1 h2 h3 h4 rfl (by decide) v l.length _ hs hown w.heap.size A m c (t.map Value.string) hx (by rw [hm]; exact reads_strs hr) (strs_one t) (by rw [hm]; unfold maxLen; omega) (by rw [hm]; omega) hbase ?_
  intro v' w' hown' hg hb
  obtain ⟨a', c', rfl⟩ := slice_of_own hown'
  exact h a' _ c' w' (by unfold OwnStrs; rw [List.map_append, List.length_append]; rw [hm] at hown'; rw [hm]; exact hown') hg hb (by rw [hm])
theorem strs_new (w : World) (x : ByteArray) (t : TypeId) : StrsC (w.alloc (.cells #[.string x] t)) (some ⟨w.heap.size, 0, none⟩) [x] := by
  intro i hi
  obtain rfl : i = 0 := by simpa using hi
  exact ⟨w.heap.size, 0, rfl, by simp, by rw [World.cell?_alloc_at _ _ _ _ rfl]; rfl⟩
theorem own_strs_empty (w : World) : OwnStrs (w.alloc (.cells #[] 9)) w.heap.size (.slice (some ⟨w.heap.size, 0, none⟩) 0 0) [] :=
  World.ownsRow_lit w #[] 0 (Nat.le_refl _) (by decide) rfl
def eqStrB (a b : ByteArray) : Bool := decide (a = b)
theorem eqStrB_iff (a b : ByteArray) : eqStrB a b = true ↔ a = b := by simp [eqStrB]
end Go.Proofs.YtclffohjpbmnbaaGreatDoor

/- CmpPure: how two lists compare, by the package impl: nothing is made on the way. -/
namespace Go.Proofs.YtclffohjpbmnbaaGreatDoor
open Go.ChangeShapes Go.WideShapes Go.ChangeAt Go.RowKit

theorem drewK {w wr : World} (h : ∃ q, wr = w.drewN q) (n : Nat) : ∃ q, wr.drewN n = w.drewN q := by
  obtain ⟨q, rfl⟩ := h
  exact ⟨q + n, World.drewN_drewN ..⟩
theorem drewT {w w1 w2 : World} (h : ∃ q, w1 = w.drewN q) (k : ∃ q, w2 = w1.drewN q) : ∃ q, w2 = w.drewN q := by
  obtain ⟨q, rfl⟩ := k
  exact drewK h q
theorem drewC {w wr : World} {p : Addr} {x : Value} (h : ∃ q, wr = w.drewN q) (c : w.cell? p = some x) : wr.cell? p = some x := by
  obtain ⟨q, rfl⟩ := h
  exact c
theorem drewB {w wr : World} (h : ∃ q, wr = w.drewN q) : Below w.heap.size w wr := by
  obtain ⟨q, rfl⟩ := h
  exact below_drewN (Below.refl _ _) q
/-- A number, and nothing made. -/
def GivesP (z : Int) (w : World) (e : Ending) (w' : World) : Prop := e = .returned (.int .i64 z) ∧ ∃ q, w' = w.drewN q
theorem GivesP.mk {z y : Int} {w w' : World} (h : z = y) (hq : ∃ q, w' = w.drewN q) : GivesP z w (.returned (.int .i64 y)) w' := ⟨by rw [h], hq⟩
set_option maxHeartbeats 1000000 in
theorem comparePure_c (v u : Value) (l m : List Int) (w : World) (hv : IntsAt w v l) (hu : IntsAt w u m) : Calls Tryz.prog 43 #[v, u] w (GivesP (cmpL l m) w) := by
  obtain ⟨a, n, cap, rfl, hn, hl, hm, hc⟩ := hv
  obtain ⟨a', n', cap', rfl, hn', -, hm', hc'⟩ := hu
  have Hc := Lib.hid hc; clear hc
  have Hc' := Lib.hid hc'; clear hc'
  have h0 : ∃ q, w = w.drewN q := ⟨0, rfl⟩
  by_cases h1 : n < n'
  · have HR : Hid (cmpL l m = -1) := Lib.hid (by unfold cmpL; rw [← hn, ← hn', if_pos h1])
    have hne : ((n : Int) != (n' : Int)) = true := by simp; omega
    have H0 := Lib.hid h0
    clear hn hn' h0
    go_enter Tryz.func43, Tryz.ntmps43
    go_wp2
    go_ret
    exact GivesP.mk HR.out H0.out
  by_cases h2 : n' < n
  · have HR : Hid (cmpL l m = 1) := Lib.hid (by unfold cmpL; rw [← hn, ← hn', if_neg h1, if_pos h2])
    have hne : ((n : Int) != (n' : Int)) = true := by simp; omega
    have H0 := Lib.hid h0
    clear hn hn' h0
    go_enter Tryz.func43, Tryz.ntmps43
    go_wp2
    go_ret
    exact GivesP.mk HR.out H0.out
  obtain rfl : n = n' := by omega
  have HR : Hid (cmpL l m = cmpF l m) := Lib.hid (by unfold cmpL; rw [← hn, ← hn', if_neg h1, if_neg h1])
  have Hn := Lib.hid hn; clear hn
  have Hn' := Lib.hid hn'; clear hn' h1 h2
  have H0 := Lib.hid h0
  clear h0
  go_enter Tryz.func43, Tryz.ntmps43
  go_wp2
  go_loopw [20] (fun i wr => ∃ k : Nat, i = .int .i64 k ∧ k ≤ n ∧ Hid (cmpL l m = cmpF (l.drop k) (m.drop k)) ∧ Hid (∃ q, wr = w.drewN q)) (fun i _ => n - (intOf i).toNat)
  case atStart => exact ⟨0, rfl, Nat.zero_le _, HR, H0⟩
  case round =>
    clear H0
    obtain ⟨k, rfl, hk, HS, HQ⟩ := hrel
    by_cases hlt : k < n
    · obtain ⟨b, o, rfl, hbs, c0⟩ := Hc.out k (by rw [← Hn.out]; exact hlt)
      obtain ⟨b', o', rfl, hbs', d0⟩ := Hc'.out k (by rw [← Hn'.out]; exact hlt)
      have HT := Lib.hid (HS.out.trans (cmpF_step l m k (by rw [← Hn.out]; exact hlt) (by rw [← Hn'.out]; exact hlt)))
      have c1 := drewC HQ.out c0
      have d1 := drewC HQ.out d0
      clear HS HR
      generalize nth l k = x at *
      generalize nth m k = y at *
      have HC0 := Lib.hid c0
      have HD0 := Lib.hid d0
      clear c0 d0
      by_cases hxy : x < y
      · have hd : decide (x < y) = true := decide_eq_true hxy
        have HV : Hid (cmpL l m = -1) := Lib.hid (by rw [HT.out, if_pos hxy])
        clear HT
        go_wp2
        go_quiet (fail)
        go_wp2
        go_ret
        exact GivesP.mk HV.out (drewK HQ.out _)
      · have hd : decide (x < y) = false := decide_eq_false hxy
        by_cases hyx : y < x
        · have hd2 : decide (y < x) = true := decide_eq_true hyx
          have HV : Hid (cmpL l m = 1) := Lib.hid (by rw [HT.out, if_neg hxy, if_pos hyx])
          clear HT
          go_wp2
          go_quiet (fail)
          have HQ2 := Lib.hid (drewK HQ.out nq)
          clear c1 d1 HQ
          generalize wr.drewN nq = wd at *
          have c1 := drewC HQ2.out HC0.out
          have d1 := drewC HQ2.out HD0.out
          go_wp2
          go_quiet (fail)
          go_wp2
          go_ret
          exact GivesP.mk HV.out (drewK HQ2.out _)
        · have hd2 : decide (y < x) = false := decide_eq_false hyx
          have HV : Hid (cmpL l m = cmpF (l.drop (k + 1)) (m.drop (k + 1))) := Lib.hid (by rw [HT.out, if_neg hxy, if_neg hyx])
          clear HT
          go_wp2
          go_quiet (fail)
          have HQ2 := Lib.hid (drewK HQ.out nq)
          clear c1 d1 HQ
          generalize wr.drewN nq = wd at *
          have c1 := drewC HQ2.out HC0.out
          have d1 := drewC HQ2.out HD0.out
          go_wp2
          go_quiet (fail)
          go_wp2
          exact ⟨⟨k + 1, by go_num, hlt, HV, Lib.hid (drewK HQ2.out _)⟩, by simp [intOf]; omega⟩
    · go_wp2
      go_ret
      exact GivesP.mk (by rw [HS.out, drop_end l k n Hn.out (by omega)]; rfl) HQ.out
end Go.Proofs.YtclffohjpbmnbaaGreatDoor
