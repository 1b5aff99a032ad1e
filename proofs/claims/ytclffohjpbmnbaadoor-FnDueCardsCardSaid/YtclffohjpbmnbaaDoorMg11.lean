import Derived.Test.YtclffohjpbmnbaaDoorMg6
import Derived.Test.YtclffohjpbmnbaaDoorMg10
/- Canon1: copies, repetitions, rotations, comparisons of lists of numbers, by both packages. -/
namespace Go.Proofs.YtclffohjpbmnbaaDoor
open Go.ChangeShapes Go.WideShapes Go.ChangeAt Go.RowKit

/-- The call hands back a slice of its own that reads as l. -/
def GivesInts (l : List Int) (w : World) (e : Ending) (w' : World) : Prop := ∃ a n c, e = .returned (.slice a n c) ∧ OwnInts w' w.heap.size (.slice a n c) l ∧ Below w.heap.size w w'

theorem l00Own_c (v : Value) (l : List Int) (w : World) (hv : IntsAt w v l) (hl : l.length ≤ 1048576) : Calls Tryd.prog 53 #[v] w (GivesInts l w) := by
  obtain ⟨a, n, cap, rfl, hn, -, -, hc⟩ := hv
  have Hc := Lib.hid hc; clear hc
  have Hn := Lib.hid hn; clear hn
  go_enter Tryd.func53, Tryd.ntmps53
  go_wp2_with (at_builtin; refine wpList_app_ints rfl _ _ rfl w.heap.size _ _ rfl (own_empty w) _ _ _ l rfl Hn.out (Hc.out.below (by go_grown)) (by simp only [List.length_nil]; omega) (by simp) ?_)
  intro a2 n2 c2 w2 ho2 hg2 _ _
  have hb2 : Below w.heap.size w w2 := ((Below.refl _ _).alloc (Nat.le_refl _) _).grown hg2 (by simp) (fun g hg => by simp [Value.ownBlock] at hg; omega)
  have HO2 : Hid (OwnInts w2 w.heap.size (.slice a2 n2 c2) l) := Lib.hid ho2
  clear ho2 hg2
  go_wp2
  go_ret
  exact ⟨_, _, _, rfl, HO2.out, hb2⟩


theorem mod_facts (a n : Int) (hn : 0 < n) (hn2 : n ≤ 1000000) : IntKind.i64.wrap (a.tmod n + n) = a.tmod n + n ∧ (a.tmod n + n).tmod n = a % n := by
  have h1 : a.tmod n < n := Int.tmod_lt_of_pos a hn
  have h2 : -n < a.tmod n := Int.lt_tmod_of_pos a hn
  refine ⟨IntWalk.i64_in _ (by omega), ?_⟩
  rw [Int.tmod_eq_emod_of_nonneg (by omega), Int.add_emod_right, Int.tmod_eq_emod]
  have hn' : ((n.natAbs : Int)) = n := by omega
  split
  · simp
  · rw [hn', Int.sub_emod, Int.emod_self, Int.sub_zero, Int.emod_emod_of_dvd _ (Int.dvd_refl n), Int.emod_emod_of_dvd _ (Int.dvd_refl n)]

end Go.Proofs.YtclffohjpbmnbaaDoor

/- Strs: slices of texts: what the walks say of them; whether two are the same. -/
namespace Go.Proofs.YtclffohjpbmnbaaDoor
open Go.ChangeShapes Go.WideShapes Go.ChangeAt Go.RowKit

instance : Inhabited ByteArray := ⟨ByteArray.empty⟩
def StrsC (w : World) (a : Option Addr) (l : List ByteArray) : Prop :=
  ∀ i, i < l.length → ∃ b o, a = some ⟨b, o, none⟩ ∧ b < w.heap.size ∧ w.cell? ⟨b, o + i, none⟩ = some (.string (nth l i))
def StrsAt (w : World) (v : Value) (l : List ByteArray) : Prop := ∃ a n cap, v = .slice a n cap ∧ n = l.length ∧ n ≤ cap ∧ cap ≤ 9223372036854775807 ∧ StrsC w a l
theorem StrsC.below {w w' : World} {a : Option Addr} {l : List ByteArray} (h : StrsC w a l) (hb : Below w.heap.size w w') : StrsC w' a l := by
  intro i hi
  obtain ⟨b, o, ha, hs, c0⟩ := h i hi
  exact ⟨b, o, ha, Nat.lt_of_lt_of_le hs hb.size, (hb.cell (p := ⟨b, _, none⟩) hs).trans c0⟩
theorem StrsAt.below {w w' : World} {v : Value} {l : List ByteArray} (h : StrsAt w v l) (hb : Below w.heap.size w w') : StrsAt w' v l := by
  obtain ⟨a, n, cap, rfl, h1, h2, h3, hc⟩ := h
  exact ⟨a, n, cap, rfl, h1, h2, h3, hc.below hb⟩
def OwnStrs (w : World) (base : Nat) (v : Value) (l : List ByteArray) : Prop := w.ownsRow base 9 1 v l.length (l.map Value.string)
theorem OwnStrs.at {w : World} {base : Nat} {v : Value} {l : List ByteArray} (h : OwnStrs w base v l) : StrsAt w v l := by
  have ho : w.ownsRow base 9 1 v l.length (l.map Value.string) := h
  have hlt := ho.lt
  rcases ho.2 with ⟨rfl, h0⟩ | ⟨g, cap, cur, rfl, hb, hg, hnc, hcm, hcs, htake⟩
  · exact ⟨none, 0, 0, rfl, h0.symm, Nat.le_refl _, by decide, fun i hi => by omega⟩
  · refine ⟨_, _, _, rfl, rfl, hnc, hcm, fun i hi => ⟨g, 0, rfl, (hlt g rfl).2, ?_⟩⟩
    have := ho.cellAt i (by omega)
    rw [Nat.zero_add, this, List.getElem?_map, nth_get? l i hi]; rfl
theorem strInfo : (Tryd.prog.info? 9).map (fun i => (i.zero, i.size, i.bytes)) = some (some (.string ByteArray.empty), 1, 16) := by kernel_rfl
theorem strs_one (l : List ByteArray) : ∀ u ∈ l.map Value.string, u.oneCell' = true := by
  intro u hu
  obtain ⟨x, _, rfl⟩ := List.mem_map.1 hu
  rfl
theorem reads_strs {w : World} {a : Option Addr} {l : List ByteArray} (h : StrsC w a l) : Reads w w.heap.size 1 a l.length (l.map Value.string) := by
  refine ⟨by simp, fun hn => ?_⟩
  obtain ⟨b, o, rfl, hb, _⟩ := h 0 hn
  refine ⟨_, rfl, hb, fun j u hu => ?_⟩
  have hj : j < l.length := by
    have := (List.getElem?_eq_some_iff.1 hu).1
    simpa using this
  obtain ⟨b', o', hab, _, hc⟩ := h j hj
  cases hab
  rw [List.getElem?_map, nth_get? l j hj] at hu
  have e : (⟨b, o, none⟩ : Addr).add j = ⟨b, o + j, none⟩ := by unfold Addr.add; split <;> simp_all
  rw [e, hc]; exact hu
/-- 'append(out, s)', 'append(out, ss...)' at texts. -/
theorem wpList_app_strs {w : World} {ops : Array Oper} {rest : List Oper} {o : Oper} {a : Act} {Q : Exit → Act → World → Prop} (hgd : o.guard = none) (s x : Operand)
    (ho : o.op = .call { callee := .builtin .append, args := #[s, x], argTypes := #[27, 27] })
    (base : Nat) (v : Value) (l : List ByteArray) (hs : a.eval s = v) (hown : OwnStrs w base v l)
    (A : Option Addr) (m c : Nat) (t : List ByteArray) (hx : a.eval x = .slice A m c) (hm : m = t.length) (hr : StrsC w A t)
    (hsz : l.length + t.length ≤ 1073741824) (hbase : base ≤ w.heap.size)
    (h : ∀ a' n' c' w', OwnStrs w' base (.slice a' n' c') (l ++ t) → w.grownBy w' v.ownBlock → ((Value.slice a' n' c').ownBlock = v.ownBlock ∨ (Value.slice a' n' c').ownBlock = some w.heap.size) → n' = l.length + t.length → wpList Tryd.prog ops Q rest (a.put o.dst (.slice a' n' c')) w') : wpList Tryd.prog ops Q (o :: rest) a w := by
  obtain ⟨i0, h1, h2, h3, h4⟩ := info_parts strInfo
  refine wpList_append_any w hgd s x 27 ho base 9 i0 _ 1 16 Tryd.underlying27 h1 h2 h3 h4 rfl (by decide) v l.length _ hs hown w.heap.size A m c (t.map Value.string) hx (by rw [hm]; exact reads_strs hr) (strs_one t) (by rw [hm]; unfold maxLen; omega) (by rw [hm]; omega) hbase ?_
  intro v' w' hown' hg hb
  obtain ⟨a', c', rfl⟩ := slice_of_own hown'
  exact h a' _ c' w' (by unfold OwnStrs; rw [List.map_append, List.length_append]; rw [hm] at hown'; rw [hm]; exact hown') hg hb (by rw [hm])
theorem strs_new (w : World) (x : ByteArray) (t : TypeId) : StrsC (w.alloc (.cells #[.string x] t)) (some ⟨w.heap.size, 0, none⟩) [x] := by
  intro i hi
  obtain rfl : i = 0 := by simpa using hi
  exact ⟨w.heap.size, 0, rfl, by simp, by rw [World.cell?_alloc_at _ _ _ _ rfl]; rfl⟩
theorem own_strs_empty (w : World) : OwnStrs (w.alloc (.cells #[] 9)) w.heap.size (.slice (some ⟨w.heap.size, 0, none⟩) 0 0) [] :=
  World.ownsRow_lit w #[] 0 (Nat.le_refl _) (by decide) rfl
def eqStrB (a b : ByteArray) : Bool := decide (a = b)
theorem eqStrB_iff (a b : ByteArray) : eqStrB a b = true ↔ a = b := by simp [eqStrB]
end Go.Proofs.YtclffohjpbmnbaaDoor
