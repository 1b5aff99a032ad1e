import Derived.Test.YtmffgmegbappiaaMg41
import Derived.Test.YtmffgmegbappiaaMg23
import Derived.Test.YtmffgmegbappiaaMg32
import Derived.Deep.RegionLaw
/- DrawC3: plans with many cards that are drawn. -/
namespace Go.Proofs.Ytmffgmegbappiaa
open Go.ChangeShapes Go.WideShapes Go.ChangeAt Go.RowKit

theorem conv_new (W : World) (b : Nat) (hb : b = W.heap.size) (x y : Int) (t : TypeId) : (convert 22 9 (.slice (some ⟨b, 0, none⟩) 2 2)).run Try.prog (W.alloc (.cells #[.int .u8 x, .int .u8 y] t)) = .ok (.string (strOfNums [x, y])) (W.alloc (.cells #[.int .u8 x, .int .u8 y] t)) := by
  subst hb
  refine run_convert_bytes_arg _ 22 5 Try.underlying22 Try.underlying5 W.heap.size 0 2 2 [x, y] rfl (fun i hi => ?_) 9 Try.underlying9
  rw [World.cell?_alloc_at _ _ _ _ rfl]
  have h : i = 0 ∨ i = 1 := by omega
  rcases h with rfl | rfl <;> rfl
theorem conv_at (W : World) (b : Nat) (x y : Int) (h0 : W.cell? ⟨b, 0, none⟩ = some (.int .u8 x)) (h1 : W.cell? ⟨b, 1, none⟩ = some (.int .u8 y)) : (convert 22 9 (.slice (some ⟨b, 0, none⟩) 2 2)).run Try.prog W = .ok (.string (strOfNums [x, y])) W := by
  refine run_convert_bytes_arg _ 22 5 Try.underlying22 Try.underlying5 b 0 2 2 [x, y] rfl (fun i hi => ?_) 9 Try.underlying9
  have h : i = 0 ∨ i = 1 := by omega
  rcases h with rfl | rfl
  · exact h0
  · exact h1
theorem conv_alloc (W : World) (x y : Int) (t : TypeId) : (convert 22 9 (.slice (some ⟨W.heap.size, 0, none⟩) 2 2)).run Try.prog (W.alloc (.cells #[.int .u8 x, .int .u8 y] t)).drew = .ok (.string (strOfNums [x, y])) (W.alloc (.cells #[.int .u8 x, .int .u8 y] t)).drew := by
  refine conv_at _ _ x y ?_ ?_
  · show (W.alloc (.cells #[.int .u8 x, .int .u8 y] t)).cell? _ = _
    rw [World.cell?_alloc_at _ _ _ _ rfl]; rfl
  · show (W.alloc (.cells #[.int .u8 x, .int .u8 y] t)).cell? _ = _
    rw [World.cell?_alloc_at _ _ _ _ rfl]; rfl
theorem card_wide (w : World) (b : Nat) (hb : b = w.heap.size) (x y : Int) (d : Int) (t : TypeId) : Reads (w.alloc (.cells #[.string ({ data := #[99] } ++ strOfNums [x, y]), .int .i64 0, .int .i64 d] t)) (w.alloc (.cells #[.string ({ data := #[99] } ++ strOfNums [x, y]), .int .i64 0, .int .i64 d] t)).heap.size 3 (some ⟨b, 0, none⟩) 1 ([(⟨{ data := #[99] } ++ strOfNums [x, y], 0, d⟩ : Card)].flatMap cardCells) := by
  subst hb
  exact card_new w _ d (by rw [ByteArray.size_append, strOfNums_size]; show 1 + 2 ≤ _; omega) t
theorem conv_drewn {W w5 : World} {b n : Nat} {x y : Int} {t : TypeId} (hd : Drew b n (W.alloc (.cells #[.int .u8 x, .int .u8 y] t)).drew w5) (hne : W.heap.size ≠ b) : (convert 22 9 (.slice (some ⟨W.heap.size, 0, none⟩) 2 2)).run Try.prog w5 = .ok (.string (strOfNums [x, y])) w5 := by
  refine conv_at _ _ x y (cellDrewD ?_ hd hne) (cellDrewD ?_ hd hne)
  · show (W.alloc (.cells #[.int .u8 x, .int .u8 y] t)).cell? _ = _
    rw [World.cell?_alloc_at _ _ _ _ rfl]; rfl
  · show (W.alloc (.cells #[.int .u8 x, .int .u8 y] t)).cell? _ = _
    rw [World.cell?_alloc_at _ _ _ _ rfl]; rfl
set_option maxRecDepth 100000 in
set_option maxHeartbeats 4000000 in
theorem l25Wide_c (b n : Nat) (w : World) (h : SrcAt w b n) (hn : n ≤ 1000000) : Calls Try.prog 56 #[.pointer (some ⟨b, 0, none⟩)] w (DrawsC b (n + 200) w) := by
  have HS := Lib.hid h
  have hbl := h.lt
  clear h
  go_enter Try.func56, Try.ntmps56
  go_wp2_with fail
  have HO0 := Lib.hid (own_cards_empty w)
  have HD0 := Lib.hid (Drew.of_below HS.out (show Below w.heap.size w (w.alloc (.cells #[] 38)) by go_grown))
  refine (pick_c b _ 2 _ HD0.out.1 (by omega) (by omega)).mono ?_
  rintro e w1 ⟨r, rfl, hr, hd⟩
  have hr1 : r ≤ 1 := by omega
  have HO1 := Lib.hid (cards_drew HO0.out hd hbl)
  have HD1 := Lib.hid (HD0.out.trans hd)
  clear hd hr HO0 HD0
  go_wp2
  go_loopw [3, 4] (fun o i wr => ∃ (k : Nat) (a' : Option Addr) (n' c' : Nat) (l' : List Card), i = .int .i64 k ∧ o = .slice a' n' c' ∧ n' + k ≤ 41 ∧ Hid (OwnCards wr w.heap.size (.slice a' n' c') l') ∧ Hid (Drew b (n + 2 + 4 * (41 - k)) w wr)) (fun _ i _ => (intOf i).toNat)
  case atStart => exact ⟨40 + r, _, _, _, [], by go_num, rfl, by omega, HO1, Lib.hid (HD1.out.mono (by omega))⟩
  case round =>
    clear HO1 HD1
    obtain ⟨k, a', n', c', l', rfl, rfl, hk, HO, HD⟩ := hrel
    have Hln := Lib.hid (cardsLen HO.out)
    by_cases hlt : 0 < k
    · have hsw := HD.out.2.size
      have hwb : wr.heap.size ≠ b := by omega
      have hcA := fun x y t => conv_alloc wr x y t
      have hz2 : ∀ x y : Int, (strOfNums [x, y]).size = 2 := fun x y => strOfNums_size [x, y]
      have hz1 : ({ data := #[99] } : ByteArray).size = 1 := rfl
      go_wp2
      go_region_law (first | (go_simp; go_at_call 32; refine (pick_c b _ 4 _ (HD.out.1.below (Below.refl wr.heap.size wr).drew) (by omega) (by omega)).mono ?_; rintro e w5 ⟨t, rfl, -, hd⟩; have HO5 := Lib.hid (cards_drew (HO.out.below (Below.refl wr.heap.size wr).drew) hd hbl); have HD5 := Lib.hid ((HD.out.then_below (Below.refl wr.heap.size wr).drew).trans hd); have hc5 := fun x y tt => conv_new w5 w5.heap.size rfl x y tt; clear hd) | (go_simp; go_at_call 32; refine (pick_c b _ 4 _ (HD.out.1.below ((Below.refl wr.heap.size wr).alloc (Nat.le_refl _) _).drew) (by omega) (by omega)).mono ?_; rintro e w5 ⟨t, rfl, -, hd⟩; have HO5 := Lib.hid (cards_drew (HO.out.below ((Below.refl wr.heap.size wr).alloc (Nat.le_refl _) _).drew) hd hbl); have HD5 := Lib.hid ((HD.out.then_below ((Below.refl wr.heap.size wr).alloc (Nat.le_refl _) _).drew).trans hd); have hc5 := conv_drewn hd hwb; clear hd) | (refine step_app_cards rfl _ _ rfl w.heap.size _ l' rfl (by first | exact HO5.out.alloc _ | exact (HO5.out.alloc _).alloc _) _ 1 1 [⟨_, 0, _⟩] rfl rfl (card_wide _ _ (by simp) _ _ _ _) (fun c hc => by rw [List.mem_singleton.1 hc]; show ByteArray.size (_ ++ _) ≤ _; rw [ByteArray.size_append, strOfNums_size]; show 1 + 2 ≤ _; omega) (by have := Hln.out; simp; omega) (by have := HD5.out.2.size; simp; omega) ?_; intro a7 n7 c7 w7 ho7 hg7 hl7 hn7; have hs5 := HD5.out.2.size; have hb7 : Below w.heap.size w5 w7 := (by first | exact ((Below.refl _ _).alloc hs5 _).grown hg7 (by simp; omega) (fun g hg => (World.ownsRow.lt HO5.out.1 g hg).1) | exact (((Below.refl _ _).alloc hs5 _).alloc (by simp; omega) _).grown hg7 (by simp; omega) (fun g hg => (World.ownsRow.lt HO5.out.1 g hg).1)); have HD7 := Lib.hid (HD5.out.thenK hb7 hbl); have HO7 := Lib.hid ho7; clear ho7 hg7 hl7 hb7 HO5 HD5 hs5))
      all_goals
        clear HO HD hcA hz1 hz2
        obtain rfl : n7 = l'.length + 1 := hn7
        go_wp2
        exact ⟨⟨k - 1, a7, _, c7, _, by go_num, rfl, by have := Hln.out; omega, HO7, Lib.hid (HD7.out.mono (by omega))⟩, by simp [intOf]; omega⟩
    · obtain rfl : k = 0 := by omega
      go_wp2
      go_ret
      exact ⟨a', n', c', l', rfl, by have := Hln.out; omega, HO.out, HD.out.mono (by omega)⟩
end Go.Proofs.Ytmffgmegbappiaa
