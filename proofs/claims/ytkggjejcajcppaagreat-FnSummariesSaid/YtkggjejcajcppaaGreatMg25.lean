import Derived.Test.YtkggjejcajcppaaGreatMg16
import Derived.Test.YtkggjejcajcppaaGreatMg24
import Derived.Test.YtkggjejcajcppaaGreatMg19
/- MedS: the catches of the attempts at a pattern in rising order, by the package spec. -/
namespace Go.Proofs.YtkggjejcajcppaaGreat
open Go.ChangeShapes Go.WideShapes Go.ChangeAt Go.RowKit

theorem insAll_step {α : Type} [Inhabited α] (lt : α → α → Bool) (l acc : List α) (k : Nat) (h : k < l.length) : insAll lt (l.drop k) acc = insAll lt (l.drop (k + 1)) (insB lt acc (nth l k)) := by
  rw [drop_nth l k h]; rfl
theorem posB_step {α : Type} [Inhabited α] (lt : α → α → Bool) (l : List α) (x : α) (p : Nat) : posB lt l x (p + 1) = if lt x (nth l p) then posB lt l x p else p + 1 := rfl

set_option maxRecDepth 100000 in
set_option maxHeartbeats 2000000 in
theorem l24Catches_c (v u : Value) (l : List Att) (own : List Int) (w : World) (hv : AttsAt w v l) (hu : IntsAt w u own) (h100 : own.length ≤ 100)
    (ho : ∀ k, k < own.length → ∃ j : Nat, nth own k = (j : Int) ∧ j < l.length) :
    Calls Tryz.prog 26 #[v, u] w (GivesInts (insAll Go.Sort.ltInt (catL l own) []) w) := by
  obtain ⟨a, n, cap, rfl, hn, -, -, hc⟩ := hv
  obtain ⟨a', m, cap', rfl, hm, -, -, hc'⟩ := hu
  have Hc := Lib.hid hc; clear hc
  have Hc' := Lib.hid hc'; clear hc'
  have Hn := Lib.hid hn; clear hn
  have hm100 : m ≤ 100 := by omega
  have Hm := Lib.hid hm; clear hm h100
  have Ho := Lib.hid ho; clear ho
  go_enter Tryz.func26, Tryz.ntmps26
  go_wp2
  go_loopw [5, 6] (fun s i wr => ∃ (k : Nat) (a1 : Option Addr) (c1 : Nat) (acc : List Int), s = .slice a1 k c1 ∧ i = .int .i64 k ∧ k ≤ m ∧ Hid (OwnInts wr w.heap.size (.slice a1 k c1) acc) ∧ Hid (insAll Go.Sort.ltInt (catL l own) [] = insAll Go.Sort.ltInt ((catL l own).drop k) acc) ∧ Below w.heap.size w wr) (fun _ i _ => m - (intOf i).toNat)
  case atStart => exact ⟨0, _, _, [], rfl, rfl, Nat.zero_le _, Lib.hid (own_empty w), Lib.hid rfl, by go_grown⟩
  case round =>
    obtain ⟨k, a1, c1, acc, rfl, rfl, hk, HO, HS, hb⟩ := hrel
    obtain ⟨ax, nx, cx, he, hlen, hkc, hcm, hA⟩ := HO.out.at
    cases he
    have HA := Lib.hid hA; clear hA
    have Hlen := Lib.hid hlen; clear hlen
    by_cases hlt : k < m
    · obtain ⟨b', o', rfl, hbs', d0⟩ := (Hc'.out.below hb) k (by rw [← Hm.out]; exact hlt)
      obtain ⟨j, hj, hjl⟩ := Ho.out k (by rw [← Hm.out]; exact hlt)
      have hjn : j < n := by rw [Hn.out]; exact hjl
      obtain ⟨b, o, pa, pn, pc, rfl, hbs, hp, e0, e1, e2⟩ := att_cells (Hc.out.below hb) j hjl
      have hcat : nth (catL l own) k = (nth l j).catches := by
        unfold catL; rw [nth_map' _ own k (by rw [← Hm.out]; exact hlt), hj, Int.toNat_natCast]
      have HT : Hid (insAll Go.Sort.ltInt (catL l own) [] = insAll Go.Sort.ltInt ((catL l own).drop (k + 1)) (insB Go.Sort.ltInt acc (nth l j).catches)) := Lib.hid (by rw [HS.out, insAll_step _ _ _ k (by rw [catL_len, ← Hm.out]; exact hlt), hcat])
      rw [hj] at d0
      clear hp HS hcat hj hjl
      generalize nth l j = x at *
      obtain ⟨xp, xc, xd⟩ := x
      dsimp only at e1 e2 HT
      generalize wr = W0 at *
      go_wp2
      go_loopw [8] (fun kk wr2 => ∃ p : Nat, kk = .int .i64 p ∧ p ≤ k ∧ Hid (posB Go.Sort.ltInt acc xc acc.length = posB Go.Sort.ltInt acc xc p) ∧ Below W0.heap.size W0 wr2) (fun kk _ => (intOf kk).toNat)
      case atStart => exact ⟨k, rfl, Nat.le_refl _, Lib.hid (by rw [← Hlen.out]), Below.refl _ _⟩
      case round =>
        obtain ⟨p, rfl, hp, HP, hb2⟩ := hrel
        have OUT : Hid (p = posB Go.Sort.ltInt acc xc acc.length → acc.take p ++ xc :: acc.drop p = insB Go.Sort.ltInt acc xc) := Lib.hid (fun h => by unfold insB; rw [← h])
        have HIns := Lib.hid (fun W x => l00Own_c (.slice a1 p c1) (acc.take p) W x (by rw [List.length_take]; omega))
        have HCut : Hid (IntsAt wr (.slice a1 p c1) (acc.take p)) := Lib.hid (ints_cut (HA.out.below hb2) (by rw [← Hlen.out]; exact hp) (by rw [← Hlen.out]; exact hkc) hcm)
        by_cases hp0 : p = 0
        · subst hp0
          have HE : Hid ((acc.take 0 ++ [xc]) ++ acc = insB Go.Sort.ltInt acc xc) := Lib.hid (OUT.out (by rw [HP.out]; rfl))
          clear OUT HP
          go_wp2_with fail
          refine (HIns.out _ HCut.out).mono ?_
          rintro e w5 ⟨a5, n5, c5, rfl, ho5, hb5'⟩
          have HO5 := Lib.hid ho5
          clear ho5
          have hs5 := hb5'.size
          have hsW := hb2.size
          have hsw := hb.size
          have HlR : Hid ((acc).length ≤ 100) := Lib.hid (by have := Hlen.out; simp; try omega)
          have Hl6 : Hid ((acc.take 0).length ≤ 100) := Lib.hid (by rw [List.length_take, ← Hlen.out]; omega)
          go_wp2_with (at_builtin; (refine wpList_app_ints rfl _ _ rfl wr.heap.size _ _ rfl (HO5.out.alloc _) _ _ _ [xc] rfl rfl (ints_new _ _ _) (by have := Hl6.out; simp only [List.length_cons, List.length_nil]; omega) (by simp; omega) ?_))
          intro a6 n6 c6 w6 ho6 hg6 _ hn6
          clear hn6
          have hb6 : Below wr.heap.size wr w6 := (hb5'.alloc (by omega) _).grown hg6 (by simp; omega) (fun g hg => (World.ownsRow.lt HO5.out g hg).1)
          have HO6 := Lib.hid ho6
          clear ho6 hg6
          go_wp2_with (at_builtin; (refine wpList_app_ints rfl _ _ rfl wr.heap.size _ _ rfl HO6.out _ _ _ (acc) rfl (by exact Hlen.out) ((HA.out.below hb2).below hb6) (by have := Hl6.out; have := HlR.out; (repeat rw [List.length_append]); (repeat rw [List.length_cons]); (try rw [List.length_nil]); omega) hb6.size ?_))
          intro a7 n7 c7 w7 ho7 hg7 _ hn7
          have hb7 : Below wr.heap.size wr w7 := hb6.grown hg7 hb6.size (fun g hg => (World.ownsRow.lt HO6.out g hg).1)
          obtain rfl : n7 = k + 1 := by have := Hlen.out; (try simp only [List.length_append, List.length_take, List.length_drop, List.length_cons, List.length_nil] at hn7); omega
          have HO7 : Hid (OwnInts w7 w.heap.size (.slice a7 (k + 1) c7) (insB Go.Sort.ltInt acc xc)) := Lib.hid (by have h : OwnInts w7 w.heap.size _ _ := own_mono ho7 (by omega); have e := HE.out; first | rwa [e] at h | (simp only [List.take_zero, List.nil_append, List.singleton_append] at e; rwa [e] at h) | (simp only [List.append_nil] at e; rwa [e] at h) | (simp only [List.append_assoc, List.singleton_append] at e; rwa [e] at h) | (simp at e; simp at h; rwa [e] at h))
          clear ho7 hg7 hn7 HO6 HO5 HIns HCut
          go_wp2
          exact ⟨⟨k + 1, a7, c7, _, rfl, by go_num, hlt, HO7, HT, bthen hb (bthen hb2 hb7)⟩, by simp [intOf]; omega⟩
        · obtain ⟨b5, o5, rfl, hb5, f0⟩ := (HA.out.below hb2) (p - 1) (by rw [← Hlen.out]; omega)
          have hps : posB Go.Sort.ltInt acc xc p = if Go.Sort.ltInt xc (nth acc (p - 1)) then posB Go.Sort.ltInt acc xc (p - 1) else p := by
            obtain ⟨q, rfl⟩ : ∃ q, p = q + 1 := ⟨p - 1, by omega⟩
            exact posB_step _ _ _ _
          generalize nth acc (p - 1) = y at *
          by_cases hxy : xc < y
          · have HP2 : Hid (posB Go.Sort.ltInt acc xc acc.length = posB Go.Sort.ltInt acc xc (p - 1)) := Lib.hid (by rw [HP.out, hps, if_pos (by simp [Go.Sort.ltInt, hxy])])
            clear hps HP OUT HIns HCut
            have hgt : decide (y > xc) = true := by simp [hxy]
            go_wp2
            exact ⟨⟨p - 1, by go_num, by omega, HP2, hb2⟩, by simp [intOf]; omega⟩
          · have HP2 : Hid (posB Go.Sort.ltInt acc xc acc.length = p) := Lib.hid (by rw [HP.out, hps, if_neg (by simp [Go.Sort.ltInt]; omega)])
            clear hps HP
            have hgt : decide (y > xc) = false := by simp; omega
            have HE : Hid ((acc.take p ++ [xc]) ++ acc.drop p = insB Go.Sort.ltInt acc xc) := Lib.hid (by rw [← OUT.out HP2.out.symm]; simp)
            clear OUT HP2
            by_cases hcp : c1 = p
            · obtain rfl : k = p := by omega
              have hcp2 := hcp.symm
              subst hcp2
              have HE : Hid ((acc.take k ++ [xc]) ++ ([] : List Int) = insB Go.Sort.ltInt acc xc) := Lib.hid (by rw [← HE.out, List.drop_eq_nil_of_le (by rw [← Hlen.out]; exact Nat.le_refl _)])
              go_wp2_with fail
              refine (HIns.out _ HCut.out).mono ?_
              rintro e w5 ⟨a5, n5, c5, rfl, ho5, hb5'⟩
              have HO5 := Lib.hid ho5
              clear ho5
              have hs5 := hb5'.size
              have hsW := hb2.size
              have hsw := hb.size
              have HlR : Hid ((([] : List Int)).length ≤ 100) := Lib.hid (by have := Hlen.out; simp; try omega)
              have Hl6 : Hid ((acc.take k).length ≤ 100) := Lib.hid (by rw [List.length_take, ← Hlen.out]; omega)
              go_wp2_with (at_builtin; (refine wpList_app_ints rfl _ _ rfl wr.heap.size _ _ rfl (HO5.out.alloc _) _ _ _ [xc] rfl rfl (ints_new _ _ _) (by have := Hl6.out; simp only [List.length_cons, List.length_nil]; omega) (by simp; omega) ?_))
              intro a6 n6 c6 w6 ho6 hg6 _ hn6
              clear hn6
              have hb6 : Below wr.heap.size wr w6 := (hb5'.alloc (by omega) _).grown hg6 (by simp; omega) (fun g hg => (World.ownsRow.lt HO5.out g hg).1)
              have HO6 := Lib.hid ho6
              clear ho6 hg6
              go_wp2_with (at_builtin; (refine wpList_app_ints rfl _ _ rfl wr.heap.size _ _ rfl HO6.out _ _ _ (([] : List Int)) rfl (by simp) (fun i hi => absurd hi (Nat.not_lt_zero _)) (by have := Hl6.out; have := HlR.out; (repeat rw [List.length_append]); (repeat rw [List.length_cons]); (try rw [List.length_nil]); omega) hb6.size ?_))
              intro a7 n7 c7 w7 ho7 hg7 _ hn7
              have hb7 : Below wr.heap.size wr w7 := hb6.grown hg7 hb6.size (fun g hg => (World.ownsRow.lt HO6.out g hg).1)
              obtain rfl : n7 = k + 1 := by have := Hlen.out; (try simp only [List.length_append, List.length_take, List.length_drop, List.length_cons, List.length_nil] at hn7); omega
              have HO7 : Hid (OwnInts w7 w.heap.size (.slice a7 (k + 1) c7) (insB Go.Sort.ltInt acc xc)) := Lib.hid (by have h : OwnInts w7 w.heap.size _ _ := own_mono ho7 (by omega); have e := HE.out; first | rwa [e] at h | (simp only [List.take_zero, List.nil_append, List.singleton_append] at e; rwa [e] at h) | (simp only [List.append_nil] at e; rwa [e] at h) | (simp only [List.append_assoc, List.singleton_append] at e; rwa [e] at h) | (simp at e; simp at h; rwa [e] at h))
              clear ho7 hg7 hn7 HO6 HO5 HIns HCut
              go_wp2
              exact ⟨⟨k + 1, a7, c7, _, rfl, by go_num, hlt, HO7, HT, bthen hb (bthen hb2 hb7)⟩, by simp [intOf]; omega⟩
            · have HX := Lib.hid (ints_from (HA.out.below hb2) Hlen.out hp hkc hcm)
              go_wp2_with fail
              refine (HIns.out _ HCut.out).mono ?_
              rintro e w5 ⟨a5, n5, c5, rfl, ho5, hb5'⟩
              have HO5 := Lib.hid ho5
              clear ho5
              have hs5 := hb5'.size
              have hsW := hb2.size
              have hsw := hb.size
              have HlR : Hid ((acc.drop p).length ≤ 100) := Lib.hid (by have := Hlen.out; simp; try omega)
              have Hl6 : Hid ((acc.take p).length ≤ 100) := Lib.hid (by rw [List.length_take, ← Hlen.out]; omega)
              go_wp2_with (at_builtin; (refine wpList_app_ints rfl _ _ rfl wr.heap.size _ _ rfl (HO5.out.alloc _) _ _ _ [xc] rfl rfl (ints_new _ _ _) (by have := Hl6.out; simp only [List.length_cons, List.length_nil]; omega) (by simp; omega) ?_))
              intro a6 n6 c6 w6 ho6 hg6 _ hn6
              clear hn6
              have hb6 : Below wr.heap.size wr w6 := (hb5'.alloc (by omega) _).grown hg6 (by simp; omega) (fun g hg => (World.ownsRow.lt HO5.out g hg).1)
              have HO6 := Lib.hid ho6
              clear ho6 hg6
              go_wp2_with (at_builtin; (refine wpList_app_ints rfl _ _ rfl wr.heap.size _ _ rfl HO6.out _ _ _ (acc.drop p) rfl (by rw [List.length_drop, ← Hlen.out]) (by have h := HX.out; rw [Option.map_some, addr_add_none] at h; obtain ⟨_, _, _, e, _, _, _, h⟩ := h; injection e with e1; subst e1; exact h.below hb6) (by have := Hl6.out; have := HlR.out; (repeat rw [List.length_append]); (repeat rw [List.length_cons]); (try rw [List.length_nil]); omega) hb6.size ?_))
              intro a7 n7 c7 w7 ho7 hg7 _ hn7
              have hb7 : Below wr.heap.size wr w7 := hb6.grown hg7 hb6.size (fun g hg => (World.ownsRow.lt HO6.out g hg).1)
              obtain rfl : n7 = k + 1 := by have := Hlen.out; (try simp only [List.length_append, List.length_take, List.length_drop, List.length_cons, List.length_nil] at hn7); omega
              have HO7 : Hid (OwnInts w7 w.heap.size (.slice a7 (k + 1) c7) (insB Go.Sort.ltInt acc xc)) := Lib.hid (by have h : OwnInts w7 w.heap.size _ _ := own_mono ho7 (by omega); have e := HE.out; first | rwa [e] at h | (simp only [List.take_zero, List.nil_append, List.singleton_append] at e; rwa [e] at h) | (simp only [List.append_nil] at e; rwa [e] at h) | (simp only [List.append_assoc, List.singleton_append] at e; rwa [e] at h) | (simp at e; simp at h; rwa [e] at h))
              clear ho7 hg7 hn7 HO6 HO5 HIns HCut
              go_wp2
              exact ⟨⟨k + 1, a7, c7, _, rfl, by go_num, hlt, HO7, HT, bthen hb (bthen hb2 hb7)⟩, by simp [intOf]; omega⟩
    · obtain rfl : k = m := by omega
      have HR : Hid (OwnInts wr w.heap.size (.slice a1 k c1) (insAll Go.Sort.ltInt (catL l own) [])) := Lib.hid (by rw [HS.out, drop_end _ k k (by rw [catL_len, ← Hm.out]) (Nat.le_refl _)]; exact HO.out)
      clear HS HO
      go_wp2
      go_ret
      exact ⟨_, _, _, rfl, HR.out, hb⟩
end Go.Proofs.YtkggjejcajcppaaGreat
