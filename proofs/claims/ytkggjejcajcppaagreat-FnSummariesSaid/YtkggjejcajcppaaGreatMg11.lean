import Derived.Test.YtkggjejcajcppaaGreatMg8
import Derived.Test.YtkggjejcajcppaaGreatMg5
/- Props: the number of props of a pattern, its highest throw, by both packages. -/
namespace Go.Proofs.YtkggjejcajcppaaGreat
open Go.ChangeShapes Go.WideShapes Go.ChangeAt Go.RowKit

/-- The number of props. -/
def propsL (l : List Int) : Int := meanL l
theorem propsL_in {l : List Int} (h : throwsB l = true) : 0 ≤ propsL l ∧ propsL l ≤ 180 := by
  obtain ⟨hx, h1, h12⟩ := throwsB_nth h
  have hm : ∀ x ∈ l, 0 ≤ x ∧ x ≤ 15 := by
    intro x hxl
    obtain ⟨i, hi, rfl⟩ := List.getElem_of_mem hxl
    have := hx i hi
    rwa [nth_eq l i hi] at this
  have h2 := sumF_in l 0 15 hm (by omega)
  unfold propsL meanL
  exact ⟨Int.ediv_nonneg (by omega) (by omega), Int.le_trans (Int.ediv_le_self _ (by omega)) (by omega)⟩
theorem sumF_throws {l : List Int} (h : throwsB l = true) : 0 ≤ sumF l 0 ∧ sumF l 0 ≤ 180 := by
  obtain ⟨hx, h1, h12⟩ := throwsB_nth h
  have hm : ∀ x ∈ l, 0 ≤ x ∧ x ≤ 15 := by
    intro x hxl
    obtain ⟨i, hi, rfl⟩ := List.getElem_of_mem hxl
    have := hx i hi
    rwa [nth_eq l i hi] at this
  have h2 := sumF_in l 0 15 hm (by omega)
  omega
set_option maxHeartbeats 1000000 in
theorem l02Sum_c (v : Value) (l : List Int) (w : World) (hv : IntsAt w v l) (ht : throwsB l = true) : Calls Tryz.prog 42 #[v] w (Gives (.int .i64 (sumF l 0)) w) := by
  obtain ⟨hx, h1, h12⟩ := throwsB_nth ht
  obtain ⟨a', m, cap', rfl, hm, -, -, hc'⟩ := hv
  have Hc' := Lib.hid hc'; clear hc'
  have hm12 : m ≤ 12 := by omega
  have Hm := Lib.hid hm; clear hm h1 h12
  have Hx := Lib.hid hx; clear hx ht
  go_enter Tryz.func42, Tryz.ntmps42
  go_wp2
  go_loopw [3, 4] (fun s i wr => ∃ (k : Nat) (t : Int), i = .int .i64 k ∧ s = .int .i64 t ∧ k ≤ m ∧ 0 ≤ t ∧ t ≤ 15 * k ∧ Hid (sumF l 0 = sumF (l.drop k) t) ∧ Below w.heap.size w wr) (fun _ i _ => m - (intOf i).toNat)
  case atStart => exact ⟨0, 0, rfl, rfl, Nat.zero_le _, Int.le_refl _, by omega, Lib.hid rfl, Below.refl _ _⟩
  case round =>
    obtain ⟨k, t, rfl, rfl, hk, hc0, hck, HS, hb⟩ := hrel
    by_cases hlt : k < m
    · obtain ⟨b', o', rfl, hbs', d0⟩ := (Hc'.out.below hb) k (by rw [← Hm.out]; exact hlt)
      obtain ⟨hx0, hx1⟩ := Hx.out k (by rw [← Hm.out]; exact hlt)
      have HT : Hid (sumF l 0 = sumF (l.drop (k + 1)) (t + nth l k)) := Lib.hid (by rw [HS.out, sumF_step _ _ k (by rw [← Hm.out]; exact hlt)])
      clear HS
      generalize nth l k = xc at *
      have hs : IntKind.i64.wrap (t + xc) = t + xc := IntWalk.i64_in _ (by omega)
      go_wp2
      exact ⟨⟨k + 1, _, by go_num, rfl, hlt, by omega, by omega, HT, hb⟩, by simp [intOf]; omega⟩
    · obtain rfl : k = m := by omega
      go_wp2
      go_ret
      exact Gives.int (by rw [HS.out, drop_end _ k k Hm.out (Nat.le_refl _)]; rfl) hb
theorem div_facts {t : Int} {k : Nat} (h0 : 0 ≤ t) (h1 : t ≤ 1000000) (hk : 1 ≤ k) : ((k : Int) == 0) = false ∧ t.tdiv (k : Int) = t / (k : Int) ∧ IntKind.i64.wrap (t / (k : Int)) = t / (k : Int) :=
  ⟨beq_eq_false_iff_ne.2 (by omega), Int.tdiv_eq_ediv_of_nonneg h0, IntWalk.i64_in _ (by have := Int.ediv_nonneg h0 (show (0 : Int) ≤ k by omega); have := Int.ediv_le_self (k : Int) h0; omega)⟩
set_option maxHeartbeats 1000000 in
theorem l02Props_c (v : Value) (l : List Int) (w : World) (hv : IntsAt w v l) (ht : throwsB l = true) : Calls Tryz.prog 21 #[v] w (Gives (.int .i64 (propsL l)) w) := by
  have HQ := Lib.hid (l02Sum_c v l w hv ht)
  obtain ⟨hx, h1, h12⟩ := throwsB_nth ht
  obtain ⟨hs0, hs1⟩ := sumF_throws ht
  obtain ⟨a', m, cap', rfl, hm, -, -, hc'⟩ := hv
  have hm1 : 1 ≤ m := by omega
  have hm12 : m ≤ 12 := by omega
  have HR : Hid (propsL l = sumF l 0 / (m : Int)) := Lib.hid (by unfold propsL meanL; rw [hm])
  clear hx hm hc' h1 h12 ht
  generalize sumF l 0 = t at *
  obtain ⟨hk0, hd, hw⟩ := div_facts (t := t) (k := m) hs0 (by omega) hm1
  go_enter Tryz.func21, Tryz.ntmps21
  go_wp2_with fail
  refine HQ.out.mono ?_
  rintro e w1 ⟨rfl, hb1⟩
  go_wp2
  go_ret
  exact Gives.int HR.out hb1
set_option maxHeartbeats 1000000 in
theorem propsOf_c (v : Value) (l : List Int) (w : World) (hv : IntsAt w v l) (ht : throwsB l = true) : Calls Tryz.prog 19 #[v] w (Gives (.int .i64 (propsL l)) w) := by
  have HA := Lib.hid hv
  have HP := Lib.hid (fun W x => period_c v l W x)
  obtain ⟨hx, h1, h12⟩ := throwsB_nth ht
  obtain ⟨a', m, cap', rfl, hm, -, -, hc'⟩ := hv
  have Hc' := Lib.hid hc'; clear hc'
  have hm1 : 1 ≤ m := by omega
  have hm12 : m ≤ 12 := by omega
  have Hm := Lib.hid hm
  rw [← hm] at HP
  clear hm h1 h12
  have Hx := Lib.hid hx; clear hx ht
  go_enter Tryz.func19, Tryz.ntmps19
  go_wp2
  go_loopw [3, 8] (fun s i wr => ∃ (k : Nat) (t : Int), i = .int .i64 k ∧ s = .int .i64 t ∧ k ≤ m ∧ 0 ≤ t ∧ t ≤ 15 * k ∧ Hid (sumF l 0 = sumF (l.drop k) t) ∧ Below w.heap.size w wr) (fun _ i _ => m - (intOf i).toNat)
  case atStart => exact ⟨0, 0, rfl, rfl, Nat.zero_le _, Int.le_refl _, by omega, Lib.hid rfl, Below.refl _ _⟩
  case round =>
    obtain ⟨k, t, rfl, rfl, hk, hc0, hck, HS, hb⟩ := hrel
    by_cases hlt : k < m
    · obtain ⟨b', o', rfl, hbs', d0⟩ := (Hc'.out.below hb) k (by rw [← Hm.out]; exact hlt)
      obtain ⟨hx0, hx1⟩ := Hx.out k (by rw [← Hm.out]; exact hlt)
      have HT : Hid (sumF l 0 = sumF (l.drop (k + 1)) (t + nth l k)) := Lib.hid (by rw [HS.out, sumF_step _ _ k (by rw [← Hm.out]; exact hlt)])
      clear HS
      generalize nth l k = xc at *
      have hs : IntKind.i64.wrap (t + xc) = t + xc := IntWalk.i64_in _ (by omega)
      go_wp2
      exact ⟨⟨k + 1, _, by go_num, rfl, hlt, by omega, by omega, HT, hb⟩, by simp [intOf]; omega⟩
    · obtain rfl : k = m := by omega
      have HR : Hid (propsL l = t / (k : Int)) := Lib.hid (by unfold propsL meanL; rw [HS.out, drop_end _ k k Hm.out (Nat.le_refl _), ← Hm.out]; rfl)
      obtain ⟨hk0, hd, hw⟩ := div_facts (t := t) (k := k) hc0 (by omega) hm1
      clear HS
      go_wp2_with fail
      refine (HP.out _ (HA.out.below hb)).mono ?_
      rintro e w1 ⟨rfl, hb1⟩
      go_wp2
      go_ret
      exact Gives.int HR.out (bthen hb hb1)
end Go.Proofs.YtkggjejcajcppaaGreat

/- Strs: slices of texts: what the walks say of them; whether two are the same. -/
namespace Go.Proofs.YtkggjejcajcppaaGreat
open Go.ChangeShapes Go.WideShapes Go.ChangeAt Go.RowKit

instance : Inhabited ByteArray := ⟨ByteArray.empty⟩
def StrsC (w : World) (a : Option Addr) (l : List ByteArray) : Prop :=
  ∀ i, i < l.length → ∃ b o, a = some ⟨b, o, none⟩ ∧ b < w.heap.size ∧ w.cell? ⟨b, o + i, none⟩ = some (.string (nth l i))
def StrsAt (w : World) (v : Value) (l : List ByteArray) : Prop := ∃ a n cap, v = .slice a n cap ∧ n = l.length ∧ n ≤ cap ∧ cap ≤ 9223372036854775807 ∧ StrsC w a l
theorem StrsC.below {w w' : World} {a : Option Addr} {l : List ByteArray} (h : StrsC w a l) (hb : Below w.heap.size w w') : StrsC w' a l := by
  intro i hi
  obtain ⟨b, o, ha, hs, c0⟩ := h i hi
  exact ⟨b, o, ha, Nat.lt_of_lt_of_le hs hb.size, (hb.cell (p := ⟨b, _, none⟩) hs).trans c0⟩
theorem StrsAt.below {w w' : World} {v : Value} {l : List ByteArray} (h : StrsAt w v l) (hb : Below w.heap.size w w') : StrsAt w' v l := by
  obtain ⟨a, n, cap, rfl, h1, h2, h3, hc⟩ := h
  exact ⟨a, n, cap, rfl, h1, h2, h3, hc.below hb⟩
def OwnStrs (w : World) (base : Nat) (v : Value) (l : List ByteArray) : Prop := w.ownsRow base 9 1 v l.length (l.map Value.string)
theorem OwnStrs.at {w : World} {base : Nat} {v : Value} {l : List ByteArray} (h : OwnStrs w base v l) : StrsAt w v l := by
  have ho : w.ownsRow base 9 1 v l.length (l.map Value.string) := h
  have hlt := ho.lt
  rcases ho.2 with ⟨rfl, h0⟩ | ⟨g, cap, cur, rfl, hb, hg, hnc, hcm, hcs, htake⟩
  · exact ⟨none, 0, 0, rfl, h0.symm, Nat.le_refl _, by decide, fun i hi => by omega⟩
  · refine ⟨_, _, _, rfl, rfl, hnc, hcm, fun i hi => ⟨g, 0, rfl, (hlt g rfl).2, ?_⟩⟩
    have := ho.cellAt i (by omega)
    rw [Nat.zero_add, this, List.getElem?_map, nth_get? l i hi]; rfl
theorem strInfo : (Tryz.prog.info? 9).map (fun i => (i.zero, i.size, i.bytes)) = some (some (.string ByteArray.empty), 1, 16) := by kernel_rfl
theorem strs_one (l : List ByteArray) : ∀ u ∈ l.map Value.string, u.oneCell' = true := by
  intro u hu
  obtain ⟨x, _, rfl⟩ := List.mem_map.1 hu
  rfl
theorem reads_strs {w : World} {a : Option Addr} {l : List ByteArray} (h : StrsC w a l) : Reads w w.heap.size 1 a l.length (l.map Value.string) := by
  refine ⟨by simp, fun hn => ?_⟩
  obtain ⟨b, o, rfl, hb, _⟩ := h 0 hn
  refine ⟨_, rfl, hb, fun j u hu => ?_⟩
  have hj : j < l.length := by
    have := (List.getElem?_eq_some_iff.1 hu).1
    simpa using this
  obtain ⟨b', o', hab, _, hc⟩ := h j hj
  cases hab
  rw [List.getElem?_map, nth_get? l j hj] at hu
  have e : (⟨b, o, none⟩ : Addr).add j = ⟨b, o + j, none⟩ := by unfold Addr.add; split <;> simp_all
  rw [e, hc]; exact hu
/-- 'append(out, s)', 'append(out, ss...)' at texts. -/
theorem wpList_app_strs {w : World} {ops : Array Oper} {rest : List Oper} {o : Oper} {a : Act} {Q : Exit → Act → World → Prop} (hgd : o.guard = none) (s x : Operand)
    (ho : o.op = .call { callee := .builtin .append, args := #[s, x], argTypes := #[74, 74] })
    (base : Nat) (v : Value) (l : List ByteArray) (hs : a.eval s = v) (hown : OwnStrs w base v l)
    (A : Option Addr) (m c : Nat) (t : List ByteArray) (hx : a.eval x = .slice A m c) (hm : m = t.length) (hr : StrsC w A t)
    (hsz : l.length + t.length ≤ 1073741824) (hbase : base ≤ w.heap.size)
    (h : ∀ a' n' c' w', OwnStrs w' base (.slice a' n' c') (l ++ t) → w.grownBy w' v.ownBlock → ((Value.slice a' n' c').ownBlock = v.ownBlock ∨ (Value.slice a' n' c').ownBlock = some w.heap.size) → n' = l.length + t.length → wpList Tryz.prog ops Q rest (a.put o.dst (.slice a' n' c')) w') : wpList Tryz.prog ops Q (o :: rest) a w := by
  obtain ⟨i0, h1, h2, h3, h4⟩ := info_parts strInfo
  refine wpList_append_any w hgd s x 74 ho base 9 i0 _ 1 16 Tryz.underlying74 h1 h2 h3 h4 rfl (by decide) v l.length _ hs hown w.heap.size A m c (t.map Value.string) hx (by rw [hm]; exact reads_strs hr) (strs_one t) (by rw [hm]; unfold maxLen; omega) (by rw [hm]; omega) hbase ?_
  intro v' w' hown' hg hb
  obtain ⟨a', c', rfl⟩ := slice_of_own hown'
  exact h a' _ c' w' (by unfold OwnStrs; rw [List.map_append, List.length_append]; rw [hm] at hown'; rw [hm]; exact hown') hg hb (by rw [hm])
theorem strs_new (w : World) (x : ByteArray) (t : TypeId) : StrsC (w.alloc (.cells #[.string x] t)) (some ⟨w.heap.size, 0, none⟩) [x] := by
  intro i hi
  obtain rfl : i = 0 := by simpa using hi
  exact ⟨w.heap.size, 0, rfl, by simp, by rw [World.cell?_alloc_at _ _ _ _ rfl]; rfl⟩
theorem own_strs_empty (w : World) : OwnStrs (w.alloc (.cells #[] 9)) w.heap.size (.slice (some ⟨w.heap.size, 0, none⟩) 0 0) [] :=
  World.ownsRow_lit w #[] 0 (Nat.le_refl _) (by decide) rfl
def eqStrB (a b : ByteArray) : Bool := decide (a = b)
theorem eqStrB_iff (a b : ByteArray) : eqStrB a b = true ↔ a = b := by simp [eqStrB]
end Go.Proofs.YtkggjejcajcppaaGreat
