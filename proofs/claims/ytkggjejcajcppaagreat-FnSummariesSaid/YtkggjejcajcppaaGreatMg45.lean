import Derived.Test.YtkggjejcajcppaaGreatMg38
import Derived.Test.YtkggjejcajcppaaGreatMg11
/- TextD: texts that are drawn. -/
namespace Go.Proofs.YtkggjejcajcppaaGreat
open Go.ChangeShapes Go.WideShapes Go.ChangeAt Go.RowKit

theorem strs_lit {w : World} (xs : List ByteArray) (k : Nat) (hk : k = xs.length) (b : Nat) (hb : b = w.heap.size) (h1 : k ≤ 1000) : StrsAt (w.alloc (.cells (xs.map Value.string).toArray 9)) (.slice (some ⟨b, 0, none⟩) k k) xs := by
  subst hb hk
  refine ⟨some ⟨w.heap.size, 0, none⟩, _, _, rfl, rfl, Nat.le_refl _, by omega, fun i hi => ⟨w.heap.size, 0, rfl, by simp, ?_⟩⟩
  rw [World.cell?_alloc_at _ _ _ _ rfl]
  simp [nth_get? xs i hi]
theorem StrsAt.drew {w w' : World} {b n : Nat} {v : Value} {l : List ByteArray} (h : StrsAt w v l) (hd : Drew b n w w') (hv : 0 < l.length → ∀ b' o m c, v = .slice (some ⟨b', o, none⟩) m c → b' ≠ b) : StrsAt w' v l := by
  obtain ⟨a, m, c, rfl, h1, h2, h3, hc⟩ := h
  refine ⟨a, m, c, rfl, h1, h2, h3, fun i hi => ?_⟩
  obtain ⟨b', o, rfl, hs, c0⟩ := hc i hi
  have hne := hv (by omega) b' o m c rfl
  have hk := hd.2.block b' hs (by omega)
  exact ⟨b', o, rfl, Nat.lt_of_lt_of_le hs hd.2.size, (World.cell?_of_block (a := ⟨b', o + i, none⟩) hk).trans c0⟩
set_option maxHeartbeats 1000000 in
theorem text_c (b n : Nat) (v : Value) (l : List ByteArray) (w : World) (h : SrcAt w b n) (hn : n ≤ 100000000) (hv : StrsAt w v l) (hl : 0 < l.length) (hl2 : l.length ≤ 1000) (hvb : ∀ b' o m c, v = .slice (some ⟨b', o, none⟩) m c → b' ≠ b) :
    Calls Tryz.prog 54 #[.pointer (some ⟨b, 0, none⟩), v] w fun e w' => ∃ r : Nat, r < l.length ∧ e = .returned (.string (nth l r)) ∧ Drew b (n + 2) w w' := by
  have HV := Lib.hid hv
  obtain ⟨a, m, c, rfl, hm, -, -, -⟩ := hv
  have HP := Lib.hid (pick_c b n (m : Int) w h hn (by omega))
  have Hm := Lib.hid hm
  have Hvb := Lib.hid hvb
  have Hl := Lib.hid hl
  clear h hvb hm hl hl2
  go_enter Tryz.func54, Tryz.ntmps54
  go_wp2_with fail
  refine HP.out.mono ?_
  rintro e w1 ⟨r, rfl, hr, hd⟩
  have hrl : r < l.length := by have := Hm.out; have := Hl.out; omega
  obtain ⟨a', m', c', he, hm', -, -, hc⟩ := HV.out.drew hd (fun _ => Hvb.out)
  cases he
  obtain ⟨b', o, rfl, hbs, c0⟩ := hc r hrl
  have hrm : r < m := by have := Hm.out; omega
  have Hrl := Lib.hid hrl
  have HD := Lib.hid hd
  clear hm' hc hr hrl hd
  go_wp2
  go_ret
  exact ⟨r, Hrl.out, rfl, HD.out⟩
end Go.Proofs.YtkggjejcajcppaaGreat
