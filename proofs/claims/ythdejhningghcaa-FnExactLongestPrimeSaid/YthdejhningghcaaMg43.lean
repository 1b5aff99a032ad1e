import Derived.Test.YthdejhningghcaaMg42
import Derived.Test.YthdejhningghcaaMg40
import Derived.Shelf.GgSortFunc.Slice
/- StableWx: the library's stable sort, walked: ranges swapped, rows rotated. -/
namespace Go.Proofs.Ythdejhningghcaa
open Go.ChangeShapes Go.WideShapes Go.ChangeAt Go.RowKit
open Go.Sort (swp PermIn)

/-- What the cells of the row hold. -/
structure EncV where
  enc : Int → Value
variable {EV : EncV}
/-- The row of a sort: block g, whose first cells hold d; else nothing old has turned. -/
structure RowAt (EV : EncV) (w0 : World) (g : Nat) (cur : Array Value) (e : TypeId) (d : Array Int) (W : World) : Prop where
  grown : w0.grownBy W (some g)
  row : W.heap[g]? = some (.cells (Go.Sort.putCells EV.enc 0 d cur) e (0, 0))
section
variable {w0 W W' : World} {g n : Nat} {cur : Array Value} {e : TypeId} {d : Array Int}
theorem RowAt.lt (h : RowAt EV w0 g cur e d W) : g < W.heap.size := by
  rcases Nat.lt_or_ge g W.heap.size with h1 | h1
  · exact h1
  · have := h.row; rw [Array.getElem?_eq_none h1] at this; exact absurd this (by simp)
theorem RowAt.below (h : RowAt EV w0 g cur e d W) (hb : Below W.heap.size W W') : RowAt EV w0 g cur e d W' := by
  refine ⟨⟨hb.os.trans h.grown.os, hb.tape.trans h.grown.tape, hb.output.trans h.grown.output, Nat.le_trans h.grown.size hb.size, fun k hk hne => ?_⟩, ?_⟩
  · rw [hb.block k (Nat.lt_of_lt_of_le hk h.grown.size)]; exact h.grown.block k hk hne
  · rw [hb.block g h.lt]; exact h.row
theorem RowAt.cell (h : RowAt EV w0 g cur e d W) (hs : d.size ≤ cur.size) {i : Nat} (hi : i < d.size) : W.cell? ⟨g, i, none⟩ = some (EV.enc d[i]!) := by
  have hi2 : i < cur.size := by omega
  unfold World.cell?
  rw [h.row]
  simp [Go.Sort.putCells, hi, hi2]
theorem RowAt.frozen (h : RowAt EV w0 g cur e d W) (i : Nat) : W.frozen? ⟨g, i, none⟩ = false := by
  unfold World.frozen?
  rw [h.row]
  simp
theorem RowAt.holds (h : RowAt EV w0 g cur e d W) (hs : d.size ≤ cur.size) : Go.Sort.Holds EV.enc W g 0 d := fun j hj => ⟨by rw [Nat.zero_add]; exact h.cell hs hj, h.frozen _⟩
theorem RowAt.other (h : RowAt EV w0 g cur e d W) {b o : Nat} (hb : b < w0.heap.size) (hne : b ≠ g) : W.cell? ⟨b, o, none⟩ = w0.cell? ⟨b, o, none⟩ := by
  unfold World.cell?
  rw [h.grown.block b hb (by intro e; injection e with e; exact hne e)]
theorem grown_trans {a b c : World} {row : Option Nat} (h1 : a.grownBy b row) (h2 : b.grownBy c row) : a.grownBy c row :=
  ⟨h2.os.trans h1.os, h2.tape.trans h1.tape, h2.output.trans h1.output, Nat.le_trans h1.size h2.size, fun k hk hne => (h2.block k (Nat.lt_of_lt_of_le hk h1.size) hne).trans (h1.block k hk hne)⟩
theorem RowAt.trans {d' : Array Int} (h : RowAt EV w0 g cur e d W) (h' : RowAt EV W g cur e d' W') : RowAt EV w0 g cur e d' W' := ⟨grown_trans h.grown h'.grown, h'.row⟩
theorem RowAt.self (h : RowAt EV w0 g cur e d W) : RowAt EV W g cur e d W := ⟨World.grownBy.refl W _, h.row⟩
theorem BoxIs.row {b : Nat} {l : List Value} (hb : BoxIs W b l) (h : RowAt EV W g cur e d W') (hne : b ≠ g) : BoxIs W' b l := by
  have hk : W'.heap[b]? = W.heap[b]? := h.grown.block b hb.1 (by intro x; injection x with x; exact hne x)
  refine ⟨Nat.lt_of_lt_of_le hb.1 h.grown.size, fun j => ?_, fun j => ?_⟩
  · rw [← hb.2.1 j]; unfold World.cell?; rw [hk]
  · rw [← hb.2.2 j]; unfold World.frozen?; rw [hk]
theorem RowAt.swap (h : RowAt EV w0 g cur e d W) {i j : Nat} (hi : i < d.size) (hj : j < d.size) :
    RowAt EV w0 g cur e (swp d i j) ((W.setCell ⟨g, i, none⟩ (EV.enc d[j]!)).setCell ⟨g, j, none⟩ (EV.enc d[i]!)) := by
  rw [show (⟨g, i, none⟩ : Addr) = ⟨g, 0 + i, none⟩ by rw [Nat.zero_add], show (⟨g, j, none⟩ : Addr) = ⟨g, 0 + j, none⟩ by rw [Nat.zero_add]]
  have hh : ((W.setCell ⟨g, 0 + i, none⟩ (EV.enc d[j]!)).setCell ⟨g, 0 + j, none⟩ (EV.enc d[i]!)) = Go.Sort.mapBlock W g (fun c => (c.setIfInBounds (0 + i) (EV.enc d[j]!)).setIfInBounds (0 + j) (EV.enc d[i]!)) := by
    rw [Go.Sort.setCell_eq, Go.Sort.setCell_eq, Go.Sort.mapBlock_mapBlock]
  rw [hh]
  refine ⟨⟨h.grown.os, h.grown.tape, h.grown.output, ?_, fun k hk hne => ?_⟩, ?_⟩
  · show w0.heap.size ≤ (W.heap.modify g _).size
    rw [Array.size_modify]; exact h.grown.size
  · show (W.heap.modify g _)[k]? = _
    rw [Array.getElem?_modify, if_neg (fun e => hne (by rw [e]))]
    exact h.grown.block k hk hne
  · show (W.heap.modify g _)[g]? = _
    rw [Array.getElem?_modify, if_pos rfl, h.row]
    show some (Obj.cells _ e (0, 0)) = _
    congr 2
    show ((Go.Sort.putCells EV.enc 0 d cur).setIfInBounds (0 + i) (EV.enc d[j]!)).setIfInBounds (0 + j) (EV.enc d[i]!) = _
    rw [Go.Sort.putCells_set EV.enc 0 d cur i d[j]! hi, Go.Sort.putCells_set EV.enc 0 _ cur j d[i]! (by simpa using hj)]
    rfl
end
def LessOk (EV : EncV) (gl : Nat) (lb : Array Value) (lt : Int → Int → Bool) (n : Nat) (d0 : Array Int) (w0 : World) (g : Nat) (cur : Array Value) (e : TypeId) : Prop :=
  ∀ W d, RowAt EV w0 g cur e d W → PermIn 0 n d0 d → ∀ i j : Nat, i < n → j < n → Calls Try.prog gl (#[.int .i64 i, .int .i64 j] ++ lb) W (fun x W' => x = .returned (.bool (lt d[i]! d[j]!)) ∧ Below W.heap.size W W')
def SwapOk (EV : EncV) (sf : Nat) (sb : Array Value) (n : Nat) (w0 : World) (g : Nat) (cur : Array Value) (e : TypeId) : Prop :=
  ∀ W d, RowAt EV w0 g cur e d W → d.size = n → ∀ i j : Nat, i < n → j < n →
    (callFunc sf (#[.int .i64 i, .int .i64 j] ++ sb)).run Try.prog W = .ok (.value (.tuple #[])) ((W.setCell ⟨g, i, none⟩ (EV.enc d[j]!)).setCell ⟨g, j, none⟩ (EV.enc d[i]!))

set_option maxHeartbeats 2000000 in
theorem swapRange_c {w0 : World} {g n : Nat} {cur : Array Value} {e : TypeId} {sf : Nat} {sb : Array Value} {lf : Value} (hS : SwapOk EV sf sb n w0 g cur e) (hn : n ≤ 1000000) (a b k : Nat) (d : Array Int) (W : World)
    (hR : RowAt EV w0 g cur e d W) (hd : d.size = n) (hab : a + k ≤ b) (hb : b + k ≤ n) :
    Calls Try.prog 82 #[.agg #[lf, .func (.func sf) #[] sb], .int .i64 a, .int .i64 b, .int .i64 k] W (fun x W' => x = .returned (.tuple #[]) ∧ ∃ d', RowAt EV W g cur e d' W' ∧ IxTo (swpIx a b k) d d' ∧ PermIn a (b + k) d d') := by
  have HS := Lib.hid hS
  have HD := Lib.hid hd
  have hg := hR.lt
  have HR := Lib.hid hR
  clear hS hd hR
  go_enter Try.func82, Try.ntmps82
  go_wp2
  go_loopw [8] (fun vi wr => ∃ (i : Nat) (dk : Array Int), vi = .int .i64 i ∧ i ≤ k ∧ Hid (RowAt EV W g cur e dk wr) ∧ Hid (IxTo (swpIx a b i) d dk) ∧ Hid (PermIn a (b + k) d dk) ∧ Hid (BoxIs wr W.heap.size [lf, .func (.func sf) #[] sb])) (fun vi _ => k - (intOf vi).toNat)
  case atStart => exact ⟨0, d, rfl, Nat.zero_le _, Lib.hid (HR.out.self.below (by go_grown)), Lib.hid (swpIx_zero a b d), Lib.hid (Go.Sort.permIn_refl _ _ _), Lib.hid (BoxIs.new W [lf, .func (.func sf) #[] sb] _)⟩
  case round =>
    obtain ⟨i, dk, rfl, hi, HRk, HX, HP, HB⟩ := hrel
    by_cases hlt : i < k
    · have hbx := HB.out.2.1 1
      have hdk : dk.size = n := HX.out.1.trans HD.out
      have hs := HS.out wr dk (HR.out.trans HRk.out) hdk (a + i) (b + i) (by omega) (by omega)
      rw [show (((a + i : Nat)) : Int) = (a : Int) + (i : Int) by omega, show (((b + i : Nat)) : Int) = (b : Int) + (i : Int) by omega] at hs
      have HR2 := Lib.hid (HRk.out.swap (i := a + i) (j := b + i) (by omega) (by omega))
      have HX2 := Lib.hid (swpIx_step HX.out hlt hab (by rw [HD.out]; exact hb))
      have HP2 : Hid (PermIn a (b + k) d (swp dk (a + i) (b + i))) := Lib.hid (Go.Sort.permIn_trans _ _ _ _ _ HP.out (Go.Sort.swp_permIn dk a (b + k) (a + i) (b + i) (by omega) (by omega) (by omega) (by omega) (by omega)))
      have HB2 := Lib.hid ((HB.out.set_other (c := g) (by omega) (a + i) (EV.enc dk[b + i]!)).set_other (c := g) (by omega) (b + i) (EV.enc dk[a + i]!))
      clear hdk
      go_wp2
      exact ⟨⟨i + 1, _, by go_num, hlt, HR2, HX2, HP2, HB2⟩, by simp [intOf]; omega⟩
    · obtain rfl : i = k := by omega
      go_wp2
      go_end0
      exact ⟨rfl, dk, HRk.out, HX.out, HP.out⟩
set_option maxHeartbeats 2000000 in
theorem rotate_c {w0 : World} {g n : Nat} {cur : Array Value} {e : TypeId} {sf : Nat} {sb : Array Value} {lf : Value} (hS : SwapOk EV sf sb n w0 g cur e) (hn : n ≤ 1000000) (a m b : Nat) (d : Array Int) (W : World)
    (hR : RowAt EV w0 g cur e d W) (hd : d.size = n) (ham : a < m) (hmb : m < b) (hb : b ≤ n) :
    Calls Try.prog 75 #[.agg #[lf, .func (.func sf) #[] sb], .int .i64 a, .int .i64 m, .int .i64 b] W (fun x W' => x = .returned (.tuple #[]) ∧ ∃ d', RowAt EV W g cur e d' W' ∧ IxTo (rotIx a m b) d d' ∧ PermIn a b d d') := by
  have HS := Lib.hid (fun a b k d W h1 h2 h3 h4 => swapRange_c (lf := lf) hS hn a b k d W h1 h2 h3 h4)
  have HD := Lib.hid hd
  have HR := Lib.hid hR
  have hw1 : IntKind.i64.wrap ((m : Int) - a) = ((m - a : Nat) : Int) := by rw [IntWalk.i64_in _ (by omega)]; omega
  have hw2 : IntKind.i64.wrap ((b : Int) - m) = ((b - m : Nat) : Int) := by rw [IntWalk.i64_in _ (by omega)]; omega
  clear hS hd hR
  go_enter Try.func75, Try.ntmps75
  go_wp2
  go_loopw [8, 9] (fun vi vj wr => ∃ (i j : Nat) (dk : Array Int), vi = .int .i64 i ∧ vj = .int .i64 j ∧ 0 < i ∧ 0 < j ∧ i ≤ m ∧ a ≤ m - i ∧ m + j ≤ b ∧ Hid (RowAt EV W g cur e dk wr) ∧ Hid (dk.size = n) ∧ Hid (PermIn a b d dk) ∧ Hid (∀ d', IxTo (rotIx (m - i) m (m + j)) dk d' → IxTo (rotIx a m b) d d') ∧ Hid (BoxIs wr W.heap.size [lf, .func (.func sf) #[] sb])) (fun vi vj _ => (intOf vi).toNat + (intOf vj).toNat)
  case atStart => exact ⟨m - a, b - m, d, by go_num, by go_num, by omega, by omega, by omega, by omega, by omega, Lib.hid (HR.out.self.below (by go_grown)), HD, Lib.hid (Go.Sort.permIn_refl _ _ _), Lib.hid (fun d' h => by rw [show m - (m - a) = a by omega, show m + (b - m) = b by omega] at h; exact h), Lib.hid (BoxIs.new W [lf, .func (.func sf) #[] sb] _)⟩
  case round =>
    obtain ⟨i, j, dk, rfl, rfl, hi0, hj0, him, hai, hjb, HRk, HDk, HP, HX, HB⟩ := hrel
    clear hw1 hw2
    have hbx0 := HB.out.2.1 0
    have hbx1 := HB.out.2.1 1
    have hwi : IntKind.i64.wrap ((m : Int) - i) = ((m - i : Nat) : Int) := by rw [IntWalk.i64_in _ (by omega)]; omega
    have hg := HR.out.lt
    rcases Nat.lt_trichotomy i j with hij | hij | hij
    · have hw3 : IntKind.i64.wrap ((m : Int) + j) = ((m + j : Nat) : Int) := by rw [IntWalk.i64_in _ (by omega)]; omega
      have hw4 : IntKind.i64.wrap (((m + j : Nat) : Int) - i) = ((m + j - i : Nat) : Int) := by rw [IntWalk.i64_in _ (by omega)]; omega
      have hw5 : IntKind.i64.wrap ((j : Int) - i) = ((j - i : Nat) : Int) := by rw [IntWalk.i64_in _ (by omega)]; omega
      have hne : ((i : Int) != (j : Int)) = true := by simp; omega
      have hgt : decide ((i : Int) > (j : Int)) = false := decide_eq_false (by omega)
      have hc := HS.out (m - i) (m + j - i) i dk wr (HR.out.trans HRk.out) HDk.out (by omega) (by omega)
      rw [show ((m + j - i : Nat) : Int) = (m : Int) + (j : Int) - (i : Int) by omega] at hc
      have HC := Lib.hid hc
      clear hc
      go_wp2_with fail
      refine HC.out.mono ?_
      rintro x w2 ⟨rfl, d2, hR2, hX2, hP2⟩
      have HR2 := Lib.hid (HRk.out.trans hR2)
      have HB2 := Lib.hid (HB.out.row hR2 (by omega))
      have HD2 : Hid (d2.size = n) := Lib.hid (hX2.1.trans HDk.out)
      have HP2 : Hid (PermIn a b d d2) := Lib.hid (Go.Sort.permIn_trans _ _ _ _ _ HP.out (Go.Sort.permIn_mono _ _ (m - i) (m + j - i + i) a b hai (by omega) (by rw [HDk.out]; exact hb) hP2))
      have HX2 : Hid (∀ d', IxTo (rotIx (m - i) m (m + (j - i))) d2 d' → IxTo (rotIx a m b) d d') := Lib.hid (fun d' h => HX.out d' (rot_right hX2 h hij him (by rw [HDk.out]; omega) hi0))
      clear HC hR2 hX2 hP2 HRk HDk HP HX HB hbx0 hbx1
      go_wp2
      exact ⟨⟨i, j - i, d2, rfl, by go_num, hi0, by omega, him, hai, by omega, HR2, HD2, HP2, HX2, HB2⟩, by simp [intOf]; omega⟩
    · subst hij
      have hne : ((i : Int) != (i : Int)) = false := by simp
      have HC := Lib.hid (HS.out (m - i) m i dk wr (HR.out.trans HRk.out) HDk.out (by omega) (by omega))
      go_wp2_with fail
      refine HC.out.mono ?_
      rintro x w2 ⟨rfl, d2, hR2, hX2, hP2⟩
      have HF : Hid (∃ d', RowAt EV W g cur e d' w2 ∧ IxTo (rotIx a m b) d d' ∧ PermIn a b d d') := Lib.hid ⟨d2, HRk.out.trans hR2, HX.out d2 (rot_eq hX2 him), Go.Sort.permIn_trans _ _ _ _ _ HP.out (Go.Sort.permIn_mono _ _ (m - i) (m + i) a b hai (by omega) (by rw [HDk.out]; exact hb) hP2)⟩
      clear HC hR2 hX2 hP2 HRk HDk HP HX HB hbx0 hbx1
      go_wp2
      go_end0
      exact ⟨rfl, HF.out⟩
    · have hw5 : IntKind.i64.wrap ((i : Int) - j) = ((i - j : Nat) : Int) := by rw [IntWalk.i64_in _ (by omega)]; omega
      have hne : ((i : Int) != (j : Int)) = true := by simp; omega
      have hgt : decide ((i : Int) > (j : Int)) = true := decide_eq_true (by omega)
      have HC := Lib.hid (HS.out (m - i) m j dk wr (HR.out.trans HRk.out) HDk.out (by omega) (by omega))
      go_wp2_with fail
      refine HC.out.mono ?_
      rintro x w2 ⟨rfl, d2, hR2, hX2, hP2⟩
      have HR2 := Lib.hid (HRk.out.trans hR2)
      have HB2 := Lib.hid (HB.out.row hR2 (by omega))
      have HD2 : Hid (d2.size = n) := Lib.hid (hX2.1.trans HDk.out)
      have HP2 : Hid (PermIn a b d d2) := Lib.hid (Go.Sort.permIn_trans _ _ _ _ _ HP.out (Go.Sort.permIn_mono _ _ (m - i) (m + j) a b hai (by omega) (by rw [HDk.out]; exact hb) hP2))
      have HX2 : Hid (∀ d', IxTo (rotIx (m - (i - j)) m (m + j)) d2 d' → IxTo (rotIx a m b) d d') := Lib.hid (fun d' h => HX.out d' (rot_left hX2 h hij him (by rw [HDk.out]; omega) hj0))
      clear HC hR2 hX2 hP2 HRk HDk HP HX HB hbx0 hbx1
      go_wp2
      exact ⟨⟨i - j, j, d2, by go_num, rfl, by omega, hj0, by omega, by omega, hjb, HR2, HD2, HP2, HX2, HB2⟩, by simp [intOf]; omega⟩
end Go.Proofs.Ythdejhningghcaa
