import Derived.Test.YtcgbdhbdlnimhaaGreatMg8
import Derived.Test.YtcgbdhbdlnimhaaGreatMg7
/- Canon2c: how two lists compare, by both packages. -/
namespace Go.Proofs.YtcgbdhbdlnimhaaGreat
open Go.ChangeShapes Go.WideShapes Go.ChangeAt Go.RowKit

set_option maxHeartbeats 1000000 in
theorem l02Compare_c (v u : Value) (l m : List Int) (w : World) (hv : IntsAt w v l) (hu : IntsAt w u m) : Calls Tryz.prog 117 #[v, u] w (Gives (.int .i64 (cmpL l m)) w) := by
  obtain ⟨a, n, cap, rfl, hn, hl, hm, hc⟩ := hv
  obtain ⟨a', n', cap', rfl, hn', -, hm', hc'⟩ := hu
  have Hc := Lib.hid hc; clear hc
  have Hc' := Lib.hid hc'; clear hc'
  by_cases h1 : n < n'
  · have HR : Hid (cmpL l m = -1) := Lib.hid (by unfold cmpL; rw [← hn, ← hn', if_pos h1])
    have hne : ((n : Int) != (n' : Int)) = true := by simp; omega
    clear hn hn'
    go_enter Tryz.func117, Tryz.ntmps117
    go_wp2
    go_ret
    exact Gives.int HR.out (Below.refl _ _)
  by_cases h2 : n' < n
  · have HR : Hid (cmpL l m = 1) := Lib.hid (by unfold cmpL; rw [← hn, ← hn', if_neg h1, if_pos h2])
    have hne : ((n : Int) != (n' : Int)) = true := by simp; omega
    clear hn hn'
    go_enter Tryz.func117, Tryz.ntmps117
    go_wp2
    go_ret
    exact Gives.int HR.out (Below.refl _ _)
  obtain rfl : n = n' := by omega
  have HR : Hid (cmpL l m = cmpF l m) := Lib.hid (by unfold cmpL; rw [← hn, ← hn', if_neg h1, if_neg h1])
  have Hn := Lib.hid hn; clear hn
  have Hn' := Lib.hid hn'; clear hn' h1 h2
  go_enter Tryz.func117, Tryz.ntmps117
  go_wp2
  go_loopw [5] (fun i wr => ∃ k : Nat, i = .int .i64 k ∧ k ≤ n ∧ Hid (cmpL l m = cmpF (l.drop k) (m.drop k)) ∧ Below w.heap.size w wr) (fun i _ => n - (intOf i).toNat)
  case atStart => exact ⟨0, rfl, Nat.zero_le _, HR, Below.refl _ _⟩
  case round =>
    obtain ⟨k, rfl, hk, HS, hb⟩ := hrel
    by_cases hlt : k < n
    · obtain ⟨b, o, rfl, hbs, c0⟩ := (Hc.out.below hb) k (by rw [← Hn.out]; exact hlt)
      obtain ⟨b', o', rfl, hbs', d0⟩ := (Hc'.out.below hb) k (by rw [← Hn'.out]; exact hlt)
      have HT := Lib.hid (HS.out.trans (cmpF_step l m k (by rw [← Hn.out]; exact hlt) (by rw [← Hn'.out]; exact hlt)))
      clear HS HR
      generalize nth l k = x at *
      generalize nth m k = y at *
      by_cases hxy : x < y
      · have hd : decide (x < y) = true := decide_eq_true hxy
        have HV : Hid (cmpL l m = -1) := Lib.hid (by rw [HT.out, if_pos hxy])
        clear HT
        go_wp2
        go_quiet (fail)
        go_wp2
        go_ret
        exact Gives.int HV.out (below_drewN hb _)
      · have hd : decide (x < y) = false := decide_eq_false hxy
        by_cases hyx : y < x
        · have hd2 : decide (y < x) = true := decide_eq_true hyx
          have HV : Hid (cmpL l m = 1) := Lib.hid (by rw [HT.out, if_neg hxy, if_pos hyx])
          clear HT
          go_wp2
          go_quiet (fail)
          have hd0 : Below wr.heap.size wr (wr.drewN nq) := below_drewN (Below.refl _ _) nq
          have c0' := cell_then hbs c0 hd0
          have d0' := cell_then hbs' d0 hd0
          have hb' := bthen hb hd0
          clear hd0 c0 d0
          generalize wr.drewN nq = wd at *
          go_wp2
          go_quiet (fail)
          go_wp2
          go_ret
          exact Gives.int HV.out (below_drewN hb' _)
        · have hd2 : decide (y < x) = false := decide_eq_false hyx
          have HV : Hid (cmpL l m = cmpF (l.drop (k + 1)) (m.drop (k + 1))) := Lib.hid (by rw [HT.out, if_neg hxy, if_neg hyx])
          clear HT
          go_wp2
          go_quiet (fail)
          have hd0 : Below wr.heap.size wr (wr.drewN nq) := below_drewN (Below.refl _ _) nq
          have c0' := cell_then hbs c0 hd0
          have d0' := cell_then hbs' d0 hd0
          have hb' := bthen hb hd0
          clear hd0 c0 d0
          generalize wr.drewN nq = wd at *
          go_wp2
          go_quiet (fail)
          go_wp2
          exact ⟨⟨k + 1, by go_num, hlt, HV, below_drewN hb' _⟩, by simp [intOf]; omega⟩
    · go_wp2
      go_ret
      exact Gives.int (by rw [HS.out, drop_end l k n Hn.out (by omega)]; rfl) hb
set_option maxHeartbeats 1000000 in
theorem comparePatterns_c (v u : Value) (l m : List Int) (w : World) (hv : IntsAt w v l) (hu : IntsAt w u m) : Calls Tryz.prog 91 #[v, u] w (Gives (.int .i64 (cmpL l m)) w) := by
  obtain ⟨a, n, cap, rfl, hn, hl, hm, hc⟩ := hv
  obtain ⟨a', n', cap', rfl, hn', -, hm', hc'⟩ := hu
  have Hc := Lib.hid hc; clear hc
  have Hc' := Lib.hid hc'; clear hc'
  by_cases h1 : n < n'
  · have HR : Hid (cmpL l m = -1) := Lib.hid (by unfold cmpL; rw [← hn, ← hn', if_pos h1])
    have hne : ((n : Int) != (n' : Int)) = true := by simp; omega
    clear hn hn'
    go_enter Tryz.func91, Tryz.ntmps91
    go_wp2
    go_ret
    exact Gives.int HR.out (Below.refl _ _)
  by_cases h2 : n' < n
  · have HR : Hid (cmpL l m = 1) := Lib.hid (by unfold cmpL; rw [← hn, ← hn', if_neg h1, if_pos h2])
    have hne : ((n : Int) != (n' : Int)) = true := by simp; omega
    clear hn hn'
    go_enter Tryz.func91, Tryz.ntmps91
    go_wp2
    go_ret
    exact Gives.int HR.out (Below.refl _ _)
  obtain rfl : n = n' := by omega
  have HR : Hid (cmpL l m = cmpF l m) := Lib.hid (by unfold cmpL; rw [← hn, ← hn', if_neg h1, if_neg h1])
  have Hn := Lib.hid hn; clear hn
  have Hn' := Lib.hid hn'; clear hn' h1 h2
  go_enter Tryz.func91, Tryz.ntmps91
  go_wp2
  go_loopw [20] (fun i wr => ∃ k : Nat, i = .int .i64 k ∧ k ≤ n ∧ Hid (cmpL l m = cmpF (l.drop k) (m.drop k)) ∧ Below w.heap.size w wr) (fun i _ => n - (intOf i).toNat)
  case atStart => exact ⟨0, rfl, Nat.zero_le _, HR, Below.refl _ _⟩
  case round =>
    obtain ⟨k, rfl, hk, HS, hb⟩ := hrel
    by_cases hlt : k < n
    · obtain ⟨b, o, rfl, hbs, c0⟩ := (Hc.out.below hb) k (by rw [← Hn.out]; exact hlt)
      obtain ⟨b', o', rfl, hbs', d0⟩ := (Hc'.out.below hb) k (by rw [← Hn'.out]; exact hlt)
      have HT := Lib.hid (HS.out.trans (cmpF_step l m k (by rw [← Hn.out]; exact hlt) (by rw [← Hn'.out]; exact hlt)))
      clear HS HR
      generalize nth l k = x at *
      generalize nth m k = y at *
      by_cases hxy : x < y
      · have hd : decide (x < y) = true := decide_eq_true hxy
        have HV : Hid (cmpL l m = -1) := Lib.hid (by rw [HT.out, if_pos hxy])
        clear HT
        go_wp2
        go_quiet (fail)
        go_wp2
        go_ret
        exact Gives.int HV.out (below_drewN hb _)
      · have hd : decide (x < y) = false := decide_eq_false hxy
        by_cases hyx : y < x
        · have hd2 : decide (y < x) = true := decide_eq_true hyx
          have HV : Hid (cmpL l m = 1) := Lib.hid (by rw [HT.out, if_neg hxy, if_pos hyx])
          clear HT
          go_wp2
          go_quiet (fail)
          have hd0 : Below wr.heap.size wr (wr.drewN nq) := below_drewN (Below.refl _ _) nq
          have c0' := cell_then hbs c0 hd0
          have d0' := cell_then hbs' d0 hd0
          have hb' := bthen hb hd0
          clear hd0 c0 d0
          generalize wr.drewN nq = wd at *
          go_wp2
          go_quiet (fail)
          go_wp2
          go_ret
          exact Gives.int HV.out (below_drewN hb' _)
        · have hd2 : decide (y < x) = false := decide_eq_false hyx
          have HV : Hid (cmpL l m = cmpF (l.drop (k + 1)) (m.drop (k + 1))) := Lib.hid (by rw [HT.out, if_neg hxy, if_neg hyx])
          clear HT
          go_wp2
          go_quiet (fail)
          have hd0 : Below wr.heap.size wr (wr.drewN nq) := below_drewN (Below.refl _ _) nq
          have c0' := cell_then hbs c0 hd0
          have d0' := cell_then hbs' d0 hd0
          have hb' := bthen hb hd0
          clear hd0 c0 d0
          generalize wr.drewN nq = wd at *
          go_wp2
          go_quiet (fail)
          go_wp2
          exact ⟨⟨k + 1, by go_num, hlt, HV, below_drewN hb' _⟩, by simp [intOf]; omega⟩
    · go_wp2
      go_ret
      exact Gives.int (by rw [HS.out, drop_end l k n Hn.out (by omega)]; rfl) hb
end Go.Proofs.YtcgbdhbdlnimhaaGreat

/- Strs: slices of texts: what the walks say of them; whether two are the same. -/
namespace Go.Proofs.YtcgbdhbdlnimhaaGreat
open Go.ChangeShapes Go.WideShapes Go.ChangeAt Go.RowKit

instance : Inhabited ByteArray := ⟨ByteArray.empty⟩
def StrsC (w : World) (a : Option Addr) (l : List ByteArray) : Prop :=
  ∀ i, i < l.length → ∃ b o, a = some ⟨b, o, none⟩ ∧ b < w.heap.size ∧ w.cell? ⟨b, o + i, none⟩ = some (.string (nth l i))
def StrsAt (w : World) (v : Value) (l : List ByteArray) : Prop := ∃ a n cap, v = .slice a n cap ∧ n = l.length ∧ n ≤ cap ∧ cap ≤ 9223372036854775807 ∧ StrsC w a l
theorem StrsC.below {w w' : World} {a : Option Addr} {l : List ByteArray} (h : StrsC w a l) (hb : Below w.heap.size w w') : StrsC w' a l := by
  intro i hi
  obtain ⟨b, o, ha, hs, c0⟩ := h i hi
  exact ⟨b, o, ha, Nat.lt_of_lt_of_le hs hb.size, (hb.cell (p := ⟨b, _, none⟩) hs).trans c0⟩
theorem StrsAt.below {w w' : World} {v : Value} {l : List ByteArray} (h : StrsAt w v l) (hb : Below w.heap.size w w') : StrsAt w' v l := by
  obtain ⟨a, n, cap, rfl, h1, h2, h3, hc⟩ := h
  exact ⟨a, n, cap, rfl, h1, h2, h3, hc.below hb⟩
def OwnStrs (w : World) (base : Nat) (v : Value) (l : List ByteArray) : Prop := w.ownsRow base 9 1 v l.length (l.map Value.string)
theorem OwnStrs.at {w : World} {base : Nat} {v : Value} {l : List ByteArray} (h : OwnStrs w base v l) : StrsAt w v l := by
  have ho : w.ownsRow base 9 1 v l.length (l.map Value.string) := h
  have hlt := ho.lt
  rcases ho.2 with ⟨rfl, h0⟩ | ⟨g, cap, cur, rfl, hb, hg, hnc, hcm, hcs, htake⟩
  · exact ⟨none, 0, 0, rfl, h0.symm, Nat.le_refl _, by decide, fun i hi => by omega⟩
  · refine ⟨_, _, _, rfl, rfl, hnc, hcm, fun i hi => ⟨g, 0, rfl, (hlt g rfl).2, ?_⟩⟩
    have := ho.cellAt i (by omega)
    rw [Nat.zero_add, this, List.getElem?_map, nth_get? l i hi]; rfl
theorem strInfo : (Tryz.prog.info? 9).map (fun i => (i.zero, i.size, i.bytes)) = some (some (.string ByteArray.empty), 1, 16) := by kernel_rfl
theorem strs_one (l : List ByteArray) : ∀ u ∈ l.map Value.string, u.oneCell' = true := by
  intro u hu
  obtain ⟨x, _, rfl⟩ := List.mem_map.1 hu
  rfl
theorem reads_strs {w : World} {a : Option Addr} {l : List ByteArray} (h : StrsC w a l) : Reads w w.heap.size 1 a l.length (l.map Value.string) := by
  refine ⟨by simp, fun hn => ?_⟩
  obtain ⟨b, o, rfl, hb, _⟩ := h 0 hn
  refine ⟨_, rfl, hb, fun j u hu => ?_⟩
  have hj : j < l.length := by
    have := (List.getElem?_eq_some_iff.1 hu).1
    simpa using this
  obtain ⟨b', o', hab, _, hc⟩ := h j hj
  cases hab
  rw [List.getElem?_map, nth_get? l j hj] at hu
  have e : (⟨b, o, none⟩ : Addr).add j = ⟨b, o + j, none⟩ := by unfold Addr.add; split <;> simp_all
  rw [e, hc]; exact hu
/-- 'append(out, s)', 'append(out, ss...)' at texts. -/
theorem wpList_app_strs {w : World} {ops : Array Oper} {rest : List Oper} {o : Oper} {a : Act} {Q : Exit → Act → World → Prop} (hgd : o.guard = none) (s x : Operand)
    (ho : o.op = .call { callee := .builtin .append, args := #[s, x], argTypes := #[56, 56] })
    (base : Nat) (v : Value) (l : List ByteArray) (hs : a.eval s = v) (hown : OwnStrs w base v l)
    (A : Option Addr) (m c : Nat) (t : List ByteArray) (hx : a.eval x = .slice A m c) (hm : m = t.length) (hr : StrsC w A t)
    (hsz : l.length + t.length ≤ 1073741824) (hbase : base ≤ w.heap.size)
    (h : ∀ a' n' c' w', OwnStrs w' base (.slice a' n' c') (l ++ t) → w.grownBy w' v.ownBlock → ((Value.slice a' n' c').ownBlock = v.ownBlock ∨ (Value.slice a' n' c').ownBlock = some w.heap.size) → n' = l.length + t.length → wpList Tryz.prog ops Q rest (a.put o.dst (.slice a' n' c')) w') : wpList Tryz.prog ops Q (o :: rest) a w := by
  obtain ⟨i0, h1, h2, h3, h4⟩ := info_parts strInfo
  refine wpList_append_any w hgd s x 56 ho base 9 i0 _ 1 16 Tryz.underlying56 h1 h2 h3 h4 rfl (by decide) v l.length _ hs hown w.heap.size A m c (t.map Value.string) hx (by rw [hm]; exact reads_strs hr) (strs_one t) (by rw [hm]; unfold maxLen; omega) (by rw [hm]; omega) hbase ?_
  intro v' w' hown' hg hb
  obtain ⟨a', c', rfl⟩ := slice_of_own hown'
  exact h a' _ c' w' (by unfold OwnStrs; rw [List.map_append, List.length_append]; rw [hm] at hown'; rw [hm]; exact hown') hg hb (by rw [hm])
theorem strs_new (w : World) (x : ByteArray) (t : TypeId) : StrsC (w.alloc (.cells #[.string x] t)) (some ⟨w.heap.size, 0, none⟩) [x] := by
  intro i hi
  obtain rfl : i = 0 := by simpa using hi
  exact ⟨w.heap.size, 0, rfl, by simp, by rw [World.cell?_alloc_at _ _ _ _ rfl]; rfl⟩
theorem own_strs_empty (w : World) : OwnStrs (w.alloc (.cells #[] 9)) w.heap.size (.slice (some ⟨w.heap.size, 0, none⟩) 0 0) [] :=
  World.ownsRow_lit w #[] 0 (Nat.le_refl _) (by decide) rfl
def eqStrB (a b : ByteArray) : Bool := decide (a = b)
theorem eqStrB_iff (a b : ByteArray) : eqStrB a b = true ↔ a = b := by simp [eqStrB]
end Go.Proofs.YtcgbdhbdlnimhaaGreat
