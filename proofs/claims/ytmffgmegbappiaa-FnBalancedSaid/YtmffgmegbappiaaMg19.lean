import Derived.Test.YtmffgmegbappiaaMg18
import Derived.Deep.RegionHeld3
/- CardDrop: a plan without a card. -/
namespace Go.Proofs.Ytmffgmegbappiaa
open Go.ChangeShapes Go.WideShapes Go.ChangeAt Go.RowKit

theorem own_mono' {w : World} {base base' : Nat} {e : TypeId} {size : Nat} {v : Value} {n : Nat} {xs : List Value} (h : w.ownsRow base' e size v n xs) (hb : base ≤ base') : w.ownsRow base e size v n xs := by
  obtain ⟨h1, h2⟩ := h
  refine ⟨h1, ?_⟩
  rcases h2 with h2 | ⟨g, cap, cur, hv, hg, r⟩
  · exact .inl h2
  · exact .inr ⟨g, cap, cur, hv, Nat.le_trans hb hg, r⟩
theorem OwnCards.mono {w : World} {base base' : Nat} {v : Value} {l : List Card} (h : OwnCards w base' v l) (hb : base ≤ base') : OwnCards w base v l := ⟨own_mono' h.1 hb, h.2⟩
/-- A list of cards of the call's own and a code. -/
def GivesCardsC (l : List Card) (code : Int) (w : World) (e : Ending) (w' : World) : Prop := ∃ a n c, e = .returned (.tuple #[.slice a n c, .int .i64 code]) ∧ OwnCards w' w.heap.size (.slice a n c) l ∧ Below w.heap.size w w'
theorem GivesCardsC.none {l : List Card} {c1 c2 : Int} {w w' : World} (h : l = []) (hc : c1 = c2) (hb : Below w.heap.size w w') : GivesCardsC l c1 w (.returned (.tuple #[.slice Option.none 0 0, .int .i64 c2])) w' :=
  ⟨Option.none, 0, 0, by rw [hc], by rw [h]; exact own_cards_nil _ _, hb⟩

theorem GivesCardsC.mk {l : List Card} {c1 c2 : Int} {a : Option Addr} {n c : Nat} {w w' : World} (hc : c1 = c2) (ho : OwnCards w' w.heap.size (.slice a n c) l) (hb : Below w.heap.size w w') : GivesCardsC l c1 w (.returned (.tuple #[.slice a n c, .int .i64 c2])) w' :=
  ⟨a, n, c, by rw [hc], ho, hb⟩

def dropCode (l : List Card) (s : ByteArray) : Int := if okCards l then (if findC l s < 0 then 3 else 0) else 1
def dropL (l : List Card) (s : ByteArray) : List Card := if okCards l then (if findC l s < 0 then [] else l.take (findC l s).toNat ++ l.drop ((findC l s).toNat + 1)) else []

theorem okCards_len {l : List Card} (h : okCards l = true) : l.length ≤ 40 := by
  unfold okCards at h
  rw [Bool.and_eq_true] at h
  exact of_decide_eq_true h.2

set_option maxHeartbeats 1000000 in
theorem sDropCard_c (v : Value) (l : List Card) (s : ByteArray) (w : World) (hv : CardsAt w v l) : Calls Try.prog 25 #[v, .string s] w (GivesCardsC (dropL l s) (dropCode l s) w) := by
  have HV := Lib.hid hv
  have hs := cardsAt_size hv
  have HQ := l25Ok_c v l w hv
  have HF := Lib.hid (fun W x => l25Find_c v l s W x)
  obtain ⟨a, n, cap, rfl, hn, hl, hm, hc⟩ := hv
  have Hc := Lib.hid hc; clear hc
  have Hs := Lib.hid hs; clear hs
  cases hE : okCards l
  · rw [hE] at HQ
    have HE := Lib.hid hE
    clear hE hn
    go_enter Try.func25, Try.ntmps25
    go_wp2_with fail
    refine HQ.mono ?_
    rintro e w1 ⟨rfl, hb1⟩
    clear HQ
    go_wp2
    go_ret2
    exact GivesCardsC.none (by unfold dropL; rw [HE.out]; rfl) (by unfold dropCode; rw [HE.out]; rfl) hb1
  · rw [hE] at HQ
    have hn40 : n ≤ 40 := by rw [hn]; exact okCards_len hE
    have HE := Lib.hid hE
    have Hn := Lib.hid hn
    clear hE hn
    have hf := findC_cases l s
    rcases hf with hf | ⟨k, hf, hk, -⟩
    · have HG := Lib.hid hf
      have HF2 : Hid (∀ W, CardsAt W (.slice a n cap) l → Calls Try.prog 50 #[.slice a n cap, .string s] W (Gives (.int .i64 (-1)) W)) := Lib.hid (fun W x => by rw [← hf]; exact HF.out W x)
      clear hf HF
      go_enter Try.func25, Try.ntmps25
      go_wp2_with fail
      refine HQ.mono ?_
      rintro e w1 ⟨rfl, hb1⟩
      clear HQ
      go_wp2_with fail
      refine (HF2.out w1 (HV.out.below hb1)).mono ?_
      rintro e w2 ⟨rfl, hb2⟩
      go_wp2
      go_ret2
      exact GivesCardsC.none (by unfold dropL; rw [HE.out, HG.out]; rfl) (by unfold dropCode; rw [HE.out, HG.out]; rfl) (bthen hb1 hb2)
    · have HF2 : Hid (∀ W, CardsAt W (.slice a n cap) l → Calls Try.prog 50 #[.slice a n cap, .string s] W (Gives (.int .i64 k) W)) := Lib.hid (fun W x => by rw [← hf]; exact HF.out W x)
      have hkn : k < n := by rw [Hn.out]; exact hk
      have HR : Hid (l.take k ++ l.drop (k + 1) = dropL l s) := Lib.hid (by unfold dropL; rw [HE.out, if_pos rfl, hf, if_neg (by omega), Int.toNat_natCast])
      have HC : Hid (dropCode l s = 0) := Lib.hid (by unfold dropCode; rw [HE.out, if_pos rfl, hf, if_neg (by omega)])
      clear hk hf HF
      have hw1 : IntKind.i64.wrap ((k : Int) + 1) = (k : Int) + 1 := IntWalk.i64_in _ (by omega)
      have hi0 : (0 : Int) ≤ (k : Int) := by omega
      have hi1 : (k : Int) ≤ (cap : Int) := by omega
      have hi2 : (0 : Int) ≤ (k : Int) + 1 := by omega
      have hi3 : (k : Int) + 1 ≤ (n : Int) := by omega
      have hi4 : k ≤ cap := by omega
      have hi5 : ((k : Int) + 1).toNat = k + 1 := by omega
      rcases Decidable.em (cap = k + 1) with hcap | hcap
      · obtain rfl : cap = n := by omega
        have hkn1 : (k : Int) + 1 = (cap : Int) := by omega
        have hle := Lib.hid (show cap ≤ k + 1 by omega)
        clear hcap hi2 hi3 hi5
        rw [hkn1] at hw1
        go_enter Try.func25, Try.ntmps25
        go_wp2_with fail
        refine HQ.mono ?_
        rintro e w1 ⟨rfl, hb1⟩
        clear HQ
        go_wp2_with fail
        refine (HF2.out w1 (HV.out.below hb1)).mono ?_
        rintro e w2 ⟨rfl, hb2⟩
        have hb := bthen hb1 hb2
        have hsz := hb.size
        go_wp2_with (at_builtin; refine wpList_app_cards rfl _ _ rfl w2.heap.size _ _ rfl (own_cards_empty w2) _ _ _ (l.take k) rfl (by rw [List.length_take, ← Hn.out]; omega) (cards_front (Hc.out.below (hb.alloc hsz _)) Hn.out (by omega)) (size_take Hs.out _) (by rw [List.length_take]; simp; omega) (by simp) ?_)
        intro a4 n4 c4 w4 ho4 hg4 _ hn4
        have hb4 : Below w2.heap.size w2 w4 := ((Below.refl _ _).alloc (Nat.le_refl _) _).grown hg4 (by simp) (fun g hg => by simp [Value.ownBlock] at hg; omega)
        have HO4 := Lib.hid ho4
        clear ho4 hg4 hn4
        go_wp2_with (at_builtin; refine wpList_app_cards rfl _ _ rfl w2.heap.size _ _ rfl HO4.out _ _ _ [] rfl rfl (cards_none _ _) (fun _ h => absurd h List.not_mem_nil) (by rw [List.length_take]; simp; omega) hb4.size ?_)
        intro a5 n5 c5 w5 ho5 hg5 _ hn5
        clear hn5
        have hb5 : Below w2.heap.size w2 w5 := hb4.grown hg5 hb4.size (fun g hg => (World.ownsRow.lt HO4.out.1 g hg).1)
        have HO5 : Hid (OwnCards w5 w2.heap.size (.slice a5 n5 c5) (dropL l s)) := Lib.hid (by
          rw [← HR.out, List.drop_eq_nil_of_le (by rw [← Hn.out]; exact hle.out)]; simpa using ho5)
        clear ho5 hg5 HO4
        go_wp2
        go_ret2
        exact GivesCardsC.mk HC.out (OwnCards.mono HO5.out hsz) (bthen hb hb5)
      · go_enter Try.func25, Try.ntmps25
        go_wp2_with fail
        refine HQ.mono ?_
        rintro e w1 ⟨rfl, hb1⟩
        clear HQ
        go_wp2_with fail
        refine (HF2.out w1 (HV.out.below hb1)).mono ?_
        rintro e w2 ⟨rfl, hb2⟩
        have hb := bthen hb1 hb2
        have hsz := hb.size
        go_wp2_with (at_builtin; refine wpList_app_cards rfl _ _ rfl w2.heap.size _ _ rfl (own_cards_empty w2) _ _ _ (l.take k) rfl (by rw [List.length_take, ← Hn.out]; omega) (cards_front (Hc.out.below (hb.alloc hsz _)) Hn.out (by omega)) (size_take Hs.out _) (by rw [List.length_take]; simp; omega) (by simp) ?_)
        intro a4 n4 c4 w4 ho4 hg4 _ hn4
        have hb4 : Below w2.heap.size w2 w4 := ((Below.refl _ _).alloc (Nat.le_refl _) _).grown hg4 (by simp) (fun g hg => by simp [Value.ownBlock] at hg; omega)
        have HO4 := Lib.hid ho4
        clear ho4 hg4 hn4
        go_wp2_with (at_builtin; refine wpList_app_cards rfl _ _ rfl w2.heap.size _ _ rfl HO4.out _ _ _ (l.drop (k + 1)) rfl (by rw [List.length_drop, ← Hn.out]) (cards_back (Hc.out.below (bthen hb hb4)) Hn.out (by omega) hl hcap) (size_drop Hs.out _) (by rw [List.length_take, List.length_drop, ← Hn.out]; omega) hb4.size ?_)
        intro a5 n5 c5 w5 ho5 hg5 _ hn5
        clear hn5
        have hb5 : Below w2.heap.size w2 w5 := hb4.grown hg5 hb4.size (fun g hg => (World.ownsRow.lt HO4.out.1 g hg).1)
        have HO5 : Hid (OwnCards w5 w2.heap.size (.slice a5 n5 c5) (dropL l s)) := Lib.hid (by rw [← HR.out]; simpa using ho5)
        clear ho5 hg5 HO4
        go_wp2
        go_ret2
        exact GivesCardsC.mk HC.out (OwnCards.mono HO5.out hsz) (bthen hb hb5)
set_option maxHeartbeats 1000000 in
theorem iDropCard_c (v : Value) (l : List Card) (s : ByteArray) (w : World) (hv : CardsAt w v l) : Calls Try.prog 24 #[v, .string s] w (GivesCardsC (dropL l s) (dropCode l s) w) := by
  have HV := Lib.hid hv
  have hs := cardsAt_size hv
  have HQ := iValidCards_c v l w hv
  have HF := Lib.hid (fun W x => cardNamed_c v l s W x)
  obtain ⟨a, n, cap, rfl, hn, hl, hm, hc⟩ := hv
  have Hc := Lib.hid hc; clear hc
  have Hs := Lib.hid hs; clear hs
  cases hE : okCards l
  · rw [hE] at HQ
    have HE := Lib.hid hE
    clear hE hn
    go_enter Try.func24, Try.ntmps24
    go_wp2_with fail
    refine HQ.mono ?_
    rintro e w1 ⟨rfl, hb1⟩
    clear HQ
    go_wp2
    go_ret2
    exact GivesCardsC.none (by unfold dropL; rw [HE.out]; rfl) (by unfold dropCode; rw [HE.out]; rfl) hb1
  · rw [hE] at HQ
    have hn40 : n ≤ 40 := by rw [hn]; exact okCards_len hE
    have HE := Lib.hid hE
    have Hn := Lib.hid hn
    clear hE hn
    have hf := findC_cases l s
    rcases hf with hf | ⟨k, hf, hk, -⟩
    · have HG := Lib.hid hf
      have HF2 : Hid (∀ W, CardsAt W (.slice a n cap) l → Calls Try.prog 48 #[.slice a n cap, .string s] W (Gives (.int .i64 (-1)) W)) := Lib.hid (fun W x => by rw [← hf]; exact HF.out W x)
      clear hf HF
      go_enter Try.func24, Try.ntmps24
      go_wp2_with fail
      refine HQ.mono ?_
      rintro e w1 ⟨rfl, hb1⟩
      clear HQ
      go_wp2_with fail
      refine (HF2.out w1 (HV.out.below hb1)).mono ?_
      rintro e w2 ⟨rfl, hb2⟩
      go_wp2
      go_ret2
      exact GivesCardsC.none (by unfold dropL; rw [HE.out, HG.out]; rfl) (by unfold dropCode; rw [HE.out, HG.out]; rfl) (bthen hb1 hb2)
    · have HF2 : Hid (∀ W, CardsAt W (.slice a n cap) l → Calls Try.prog 48 #[.slice a n cap, .string s] W (Gives (.int .i64 k) W)) := Lib.hid (fun W x => by rw [← hf]; exact HF.out W x)
      have hkn : k < n := by rw [Hn.out]; exact hk
      have HR : Hid (l.take k ++ l.drop (k + 1) = dropL l s) := Lib.hid (by unfold dropL; rw [HE.out, if_pos rfl, hf, if_neg (by omega), Int.toNat_natCast])
      have HC : Hid (dropCode l s = 0) := Lib.hid (by unfold dropCode; rw [HE.out, if_pos rfl, hf, if_neg (by omega)])
      clear hk hf HF
      have hw1 : IntKind.i64.wrap ((k : Int) + 1) = (k : Int) + 1 := IntWalk.i64_in _ (by omega)
      have hi0 : (0 : Int) ≤ (k : Int) := by omega
      have hi1 : (k : Int) ≤ (cap : Int) := by omega
      have hi2 : (0 : Int) ≤ (k : Int) + 1 := by omega
      have hi3 : (k : Int) + 1 ≤ (n : Int) := by omega
      have hi4 : k ≤ cap := by omega
      have hi5 : ((k : Int) + 1).toNat = k + 1 := by omega
      rcases Decidable.em (cap = k + 1) with hcap | hcap
      · obtain rfl : cap = n := by omega
        have hkn1 : (k : Int) + 1 = (cap : Int) := by omega
        have hle := Lib.hid (show cap ≤ k + 1 by omega)
        clear hcap hi2 hi3 hi5
        rw [hkn1] at hw1
        go_enter Try.func24, Try.ntmps24
        go_wp2_with fail
        refine HQ.mono ?_
        rintro e w1 ⟨rfl, hb1⟩
        clear HQ
        go_wp2_with fail
        refine (HF2.out w1 (HV.out.below hb1)).mono ?_
        rintro e w2 ⟨rfl, hb2⟩
        have hb := bthen hb1 hb2
        have hsz := hb.size
        go_wp2
        go_region_held3 (fun _ => True) (trivial) (first | ((refine step_app_cards (by rfl) _ _ (by rfl) w2.heap.size _ [] (by rfl) (by exact own_cards_empty _) _ _ _ (l.take k) (by rfl) (by rw [List.length_take, ← Hn.out]; omega) (by exact cards_front (Hc.out.below (hb.drew.alloc hsz _)) Hn.out (by omega)) (size_take Hs.out _) (by rw [List.length_take]; simp; omega) (by simp) ?_); intro a4 n4 c4 w4 ho4 hg4 _ hn4; have hb4 : Below w2.heap.size w2 w4 := (((Below.refl _ _).drew).alloc (Nat.le_refl _) _).grown hg4 (by simp) (fun g hg => Nat.le_of_eq (Option.some.inj (show some w2.heap.size = some g from hg))); have HO4 := Lib.hid ho4; clear ho4 hg4 hn4) | ((refine step_app_cards (by rfl) _ _ (by rfl) w2.heap.size _ _ (by rfl) HO4.out _ _ _ ([]) (by rfl) (by rfl) (by exact cards_none _ _) (fun _ h => absurd h List.not_mem_nil) (by rw [List.nil_append, List.length_take]; simp; omega) hb4.size ?_); intro a5 n5 c5 w5 ho5 hg5 _ hn5; clear hn5; have hb5 : Below w2.heap.size w2 w5 := hb4.grown hg5 hb4.size (fun g hg => (World.ownsRow.lt HO4.out.1 g hg).1)))
        have HO5 : Hid (OwnCards w5 w2.heap.size (.slice a5 n5 c5) (dropL l s)) := Lib.hid (by
          rw [← HR.out, List.drop_eq_nil_of_le (by rw [← Hn.out]; exact hle.out)]; simpa using ho5)
        clear ho5 hg5 HO4
        go_wp2
        go_ret2
        exact GivesCardsC.mk HC.out (OwnCards.mono HO5.out hsz) (bthen hb hb5)
      · go_enter Try.func24, Try.ntmps24
        go_wp2_with fail
        refine HQ.mono ?_
        rintro e w1 ⟨rfl, hb1⟩
        clear HQ
        go_wp2_with fail
        refine (HF2.out w1 (HV.out.below hb1)).mono ?_
        rintro e w2 ⟨rfl, hb2⟩
        have hb := bthen hb1 hb2
        have hsz := hb.size
        go_wp2
        go_region_held3 (fun _ => True) (trivial) (first | ((refine step_app_cards (by rfl) _ _ (by rfl) w2.heap.size _ [] (by rfl) (by exact own_cards_empty _) _ _ _ (l.take k) (by rfl) (by rw [List.length_take, ← Hn.out]; omega) (by exact cards_front (Hc.out.below (hb.drew.alloc hsz _)) Hn.out (by omega)) (size_take Hs.out _) (by rw [List.length_take]; simp; omega) (by simp) ?_); intro a4 n4 c4 w4 ho4 hg4 _ hn4; have hb4 : Below w2.heap.size w2 w4 := (((Below.refl _ _).drew).alloc (Nat.le_refl _) _).grown hg4 (by simp) (fun g hg => Nat.le_of_eq (Option.some.inj (show some w2.heap.size = some g from hg))); have HO4 := Lib.hid ho4; clear ho4 hg4 hn4) | ((refine step_app_cards (by rfl) _ _ (by rfl) w2.heap.size _ _ (by rfl) HO4.out _ _ _ (l.drop (k + 1)) (by rfl) (by rw [List.length_drop, ← Hn.out]) (by exact cards_back (Hc.out.below (bthen hb hb4)) Hn.out (by omega) hl hcap) (size_drop Hs.out _) (by rw [List.nil_append, List.length_take, List.length_drop, ← Hn.out]; omega) hb4.size ?_); intro a5 n5 c5 w5 ho5 hg5 _ hn5; clear hn5; have hb5 : Below w2.heap.size w2 w5 := hb4.grown hg5 hb4.size (fun g hg => (World.ownsRow.lt HO4.out.1 g hg).1)))
        have HO5 : Hid (OwnCards w5 w2.heap.size (.slice a5 n5 c5) (dropL l s)) := Lib.hid (by rw [← HR.out]; simpa using ho5)
        clear ho5 hg5 HO4
        go_wp2
        go_ret2
        exact GivesCardsC.mk HC.out (OwnCards.mono HO5.out hsz) (bthen hb hb5)
end Go.Proofs.Ytmffgmegbappiaa
