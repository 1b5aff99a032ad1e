import Derived.Test.YtmffgmegbappiaaMg38
import Derived.Test.YtmffgmegbappiaaMg12
import Derived.Test.YtmffgmegbappiaaMg19
import Derived.Test.YtmffgmegbappiaaMg39
import Derived.Deep.RegionHeld3
/- DrawC: plans that are drawn. -/
namespace Go.Proofs.Ytmffgmegbappiaa
open Go.ChangeShapes Go.WideShapes Go.ChangeAt Go.RowKit

theorem cardNewD (w : World) (c : Card) (hs : c.name.size ≤ 9223372036854775807) (t : TypeId) : Reads (w.alloc (.cells #[.string c.name, .int .i64 c.level, .int .i64 c.due] t)) (w.alloc (.cells #[.string c.name, .int .i64 c.level, .int .i64 c.due] t)).heap.size 3 (some ⟨w.heap.size, 0, none⟩) 1 ([c].flatMap cardCells) := by
  have h : CardsC (w.alloc (.cells #[.string c.name, .int .i64 c.level, .int .i64 c.due] t)) (some ⟨w.heap.size, 0, none⟩) [c] := by
    intro i hi
    obtain rfl : i = 0 := by simpa using hi
    refine ⟨w.heap.size, 0, rfl, by simp, by simpa [nth] using hs, ?_, ?_, ?_⟩
    · rw [World.cell?_alloc_at _ _ _ _ rfl]; rfl
    · rw [World.cell?_alloc_at _ _ _ _ rfl]; rfl
    · rw [World.cell?_alloc_at _ _ _ _ rfl]; rfl
  exact cards_reads h
theorem cards_drew {w w' : World} {b n base : Nat} {v : Value} {l : List Card} (h : OwnCards w base v l) (hd : Drew b n w w') (hb : b < base) : OwnCards w' base v l := ⟨own_drew h.1 hd hb, h.2⟩
theorem cardsLen {w : World} {base n c : Nat} {a : Option Addr} {l : List Card} (h : OwnCards w base (.slice a n c) l) : n = l.length := by
  obtain ⟨_, _, _, e, hn, _⟩ := OwnCards.at h
  injection e with _ e2 _
  rw [e2]; exact hn
theorem cardsHead {w : World} {base n c : Nat} {a : Option Addr} {l : List Card} (h : OwnCards w base (.slice a n c) l) (h0 : 0 < n) : ∃ g, a = some ⟨g, 0, none⟩ ∧ base ≤ g := by
  rcases h.1.2 with ⟨he, h1⟩ | ⟨g, cap, cur, he, hb, _⟩
  · injection he; omega
  · injection he with h1 h2 _
    exact ⟨g, h1, hb⟩
theorem strs_lit {w : World} (xs : List ByteArray) (k : Nat) (hk : k = xs.length) (b : Nat) (hb : b = w.heap.size) (h1 : k ≤ 1000) : StrsAt (w.alloc (.cells (xs.map Value.string).toArray 9)) (.slice (some ⟨b, 0, none⟩) k k) xs := by
  subst hb hk
  refine ⟨some ⟨w.heap.size, 0, none⟩, _, _, rfl, rfl, Nat.le_refl _, by omega, fun i hi => ⟨w.heap.size, 0, rfl, by simp, ?_⟩⟩
  rw [World.cell?_alloc_at _ _ _ _ rfl]
  simp [nth_get? xs i hi]
theorem StrsAt.drew {w w' : World} {b n : Nat} {v : Value} {l : List ByteArray} (h : StrsAt w v l) (hd : Drew b n w w') (hv : 0 < l.length → ∀ b' o m c, v = .slice (some ⟨b', o, none⟩) m c → b' ≠ b) : StrsAt w' v l := by
  obtain ⟨a, m, c, rfl, h1, h2, h3, hc⟩ := h
  refine ⟨a, m, c, rfl, h1, h2, h3, fun i hi => ?_⟩
  obtain ⟨b', o, rfl, hs, c0⟩ := hc i hi
  have hne := hv (by omega) b' o m c rfl
  have hk := hd.2.block b' hs (by omega)
  exact ⟨b', o, rfl, Nat.lt_of_lt_of_le hs hd.2.size, (World.cell?_of_block (a := ⟨b', o + i, none⟩) hk).trans c0⟩
set_option maxHeartbeats 1000000 in
theorem text_c (b n : Nat) (v : Value) (l : List ByteArray) (w : World) (h : SrcAt w b n) (hn : n ≤ 100000000) (hv : StrsAt w v l) (hl : 0 < l.length) (hl2 : l.length ≤ 1000) (hvb : ∀ b' o m c, v = .slice (some ⟨b', o, none⟩) m c → b' ≠ b) :
    Calls Try.prog 46 #[.pointer (some ⟨b, 0, none⟩), v] w fun e w' => ∃ r : Nat, r < l.length ∧ e = .returned (.string (nth l r)) ∧ Drew b (n + 2) w w' := by
  have HV := Lib.hid hv
  obtain ⟨a, m, c, rfl, hm, -, -, -⟩ := hv
  have HP := Lib.hid (pick_c b n (m : Int) w h hn (by omega))
  have Hm := Lib.hid hm
  have Hvb := Lib.hid hvb
  have Hl := Lib.hid hl
  clear h hvb hm hl hl2
  go_enter Try.func46, Try.ntmps46
  go_wp2_with fail
  refine HP.out.mono ?_
  rintro e w1 ⟨r, rfl, hr, hd⟩
  have hrl : r < l.length := by have := Hm.out; have := Hl.out; omega
  obtain ⟨a', m', c', he, hm', -, -, hc⟩ := HV.out.drew hd (fun _ => Hvb.out)
  cases he
  obtain ⟨b', o, rfl, hbs, c0⟩ := hc r hrl
  have hrm : r < m := by have := Hm.out; omega
  have Hrl := Lib.hid hrl
  have HD := Lib.hid hd
  clear hm' hc hr hrl hd
  go_wp2
  go_ret
  exact ⟨r, Hrl.out, rfl, HD.out⟩
theorem drawDay_c (b n : Nat) (w : World) (h : SrcAt w b n) (hn : n ≤ 10000000) : Calls Try.prog 31 #[.pointer (some ⟨b, 0, none⟩)] w fun e w' => ∃ r : Int, e = .returned (.int .i64 r) ∧ -1 ≤ r ∧ r ≤ 100001 ∧ Drew b (n + 4) w w' := by
  have HS := Lib.hid h
  have hbl := h.lt
  clear h
  go_enter Try.func31, Try.ntmps31
  go_wp2_with fail
  refine (one_c b n 12 w HS.out (by omega) (by omega)).mono ?_
  rintro e w1 ⟨d, rfl, hd⟩
  have HD := Lib.hid hd
  have hs1 := hd.2.size
  clear hd HS
  cases d
  · go_wp2_with fail
    refine (pick_c b _ 14 _ HD.out.1 (by omega) (by omega)).mono ?_
    rintro e w2 ⟨r, rfl, hr, hd⟩
    have H := Lib.hid ((HD.out.trans hd).mono (show _ ≤ n + 4 by omega))
    have hr2 : (r : Int) ≤ 100001 := by omega
    clear hd hr HD
    go_wp2
    go_ret
    exact ⟨r, rfl, by omega, hr2, H.out⟩
  · go_wp2_with fail
    have hl4 := ints_lit (w := w1) [-1, 0, 99940, 100000, 100001] _ rfl _ rfl (by decide)
    have hbA : Below w1.heap.size w1 (w1.alloc (.cells (([-1, 0, 99940, 100000, 100001] : List Int).map (Value.int .i64)).toArray 2)) := by go_grown
    have HDA := Lib.hid (HD.out.then_below hbA)
    refine (among_c b _ _ [-1, 0, 99940, 100000, 100001] _ HDA.out.1 (by omega) hl4 (by decide) (by decide) (fun b' o m c e => by injection e with e1; injection e1 with e1; injection e1 with e1; omega)).mono ?_
    rintro e w2 ⟨r, hr, rfl, hd⟩
    have H := Lib.hid ((HDA.out.trans hd).mono (show _ ≤ n + 4 by omega))
    have hv : -1 ≤ nth ([-1, 0, 99940, 100000, 100001] : List Int) r ∧ nth ([-1, 0, 99940, 100000, 100001] : List Int) r ≤ 100001 := by
      have h5 : r = 0 ∨ r = 1 ∨ r = 2 ∨ r = 3 ∨ r = 4 := by simp at hr; omega
      rcases h5 with rfl | rfl | rfl | rfl | rfl <;> decide
    have Hv := Lib.hid hv
    clear hd HD HDA hl4 hbA hr hv
    generalize nth ([-1, 0, 99940, 100000, 100001] : List Int) r = x at *
    go_wp2
    go_ret
    exact ⟨x, rfl, Hv.out.1, Hv.out.2, H.out⟩
def cardNames : List ByteArray := [{ data := #[98, 111, 120] }, { data := #[99, 97, 115, 99, 97, 100, 101] }, { data := #[99, 104, 97, 115, 101] }, { data := #[112, 53, 51, 49] }, { data := #[115, 104, 111, 119, 101, 114] }, { data := #[116, 111, 119, 101, 114] }]
theorem names_c (w : World) : Calls Try.prog 47 #[] w fun e w' => e = .returned (.slice (some ⟨w.heap.size, 0, none⟩) 6 6) ∧ StrsAt w' (.slice (some ⟨w.heap.size, 0, none⟩) 6 6) cardNames ∧ Below w.heap.size w w' := by
  have H := Lib.hid (strs_lit (w := w) cardNames 6 rfl _ rfl (by decide))
  go_enter Try.func47, Try.ntmps47
  go_wp2
  go_ret
  exact ⟨rfl, H.out, by go_grown⟩
end Go.Proofs.Ytmffgmegbappiaa
