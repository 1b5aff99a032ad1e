import Derived.Test.YtclffohjpbmnbaaGreatDoorMg20
import Derived.Test.YtclffohjpbmnbaaGreatDoorMg13
import Derived.Test.YtclffohjpbmnbaaGreatDoorMg7
import Derived.Deep.RegionHeld3
/- Prac1: the patterns that have been practiced, by the package spec. -/
namespace Go.Proofs.YtclffohjpbmnbaaGreatDoor
open Go.ChangeShapes Go.WideShapes Go.ChangeAt Go.RowKit

theorem paddnone (b o j : Nat) : (⟨b, o, none⟩ : Addr).add j = ⟨b, o + j, none⟩ := by
  unfold Addr.add
  split
  · rename_i h; subst h; rfl
  · rfl
theorem pmap_zero (a : Option Addr) : a.map (fun x => x.add 0) = a := by
  cases a
  · rfl
  · rename_i x; unfold Addr.add; simp
theorem pins_yes {acc : List (List Int)} {x : List Int} {p : Nat} (hp : posB ltP acc x acc.length = p) (h0 : 0 < p) (he : nth acc (p - 1) = x) : pinS acc x = acc := by
  unfold pinS pinH; rw [hp, decide_eq_true h0, decide_eq_true he]; rfl
theorem pins_no {acc : List (List Int)} {x : List Int} {p : Nat} (hp : posB ltP acc x acc.length = p) (h : p = 0 ∨ nth acc (p - 1) ≠ x) : pinS acc x = acc.take p ++ x :: acc.drop p := by
  have hb : (decide (0 < p) && decide (nth acc (p - 1) = x)) = false := by
    rcases h with h | h
    · rw [h]; rfl
    · rw [decide_eq_false h, Bool.and_false]
  unfold pinS pinH insB; rw [hp, hb]; rfl
theorem RowP.readsT {w : World} {base n c k : Nat} {a : Option Addr} {ps : List (Value × List Int)} (h : RowP w base (.slice a n c) ps) (hk : k ≤ n) : Reads w w.heap.size 1 a k ((ps.take k).map (·.1)) := by
  have := h.reads 0 k (by omega)
  rw [pmap_zero, List.drop_zero] at this
  exact this
theorem RowP.readsD {w : World} {base n c k : Nat} {a : Option Addr} {ps : List (Value × List Int)} (h : RowP w base (.slice a n c) ps) (hk : k ≤ n) : Reads w w.heap.size 1 (a.map fun x => x.add k) (n - k) ((ps.drop k).map (·.1)) := by
  have h1 := h.reads k (n - k) (by omega)
  rw [List.take_of_length_le (by rw [List.length_drop, ← h.len]; exact Nat.le_refl _)] at h1
  exact h1
set_option maxRecDepth 100000 in
set_option maxHeartbeats 4000000 in
theorem sPracticedOf_c (v : Value) (l : List Att) (w : World) (hv : AttsAt w v l) : Calls Tryz.prog 27 #[v] w (GivesIntssC (pracL l) (pracC l) w) := by
  have hq := l24Ok_c v l w hv
  by_cases hok : okAtts l = true
  · rw [hok] at hq
    obtain ⟨hx, h100⟩ := okAtts_nth hok
    have HX0 := Lib.hid hx
    obtain ⟨hL, hC⟩ := pracL_yes hok
    have HL := Lib.hid hL
    have HC := Lib.hid hC
    obtain ⟨a, n, cap, rfl, hn, -, -, hc⟩ := hv
    have Hc := Lib.hid hc
    have Hn := Lib.hid hn
    have hn100 : n ≤ 100 := by omega
    clear hc hn h100 hx hL hC hok
    go_enter Tryz.func27, Tryz.ntmps27
    go_wp2_with fail
    refine hq.mono ?_
    rintro e w0 ⟨rfl, hb0⟩
    clear hq
    have Hc0 := Lib.hid (Hc.out.below hb0)
    have hs0 := hb0.size
    go_wp2
    go_loopw [4, 5] (fun o i wr => ∃ (k : Nat) (a' : Option Addr) (n' c' : Nat) (ps : List (Value × List Int)), i = .int .i64 k ∧ k ≤ n ∧ o = .slice a' n' c' ∧ Hid (RowP wr w0.heap.size (.slice a' n' c') ps) ∧ Hid (ps.map (·.2) = pracS (canAll l) k) ∧ Below w0.heap.size w0 wr) (fun _ i _ => n - (intOf i).toNat)
    case atStart => exact ⟨0, _, _, _, [], rfl, Nat.zero_le _, rfl, Lib.hid (rowP_empty w0), Lib.hid rfl, by go_grown⟩
    case round =>
      obtain ⟨k, a', n', c', ps, rfl, hk, rfl, HR, HAc, hb⟩ := hrel
      by_cases hlt : k < n
      · obtain ⟨b, o, pa, pn, pc, rfl, hbs, hp, c0, _, _⟩ := att_cells (Hc0.out.below hb) k (by rw [← Hn.out]; exact hlt)
        have hokx := (HX0.out k (by rw [← Hn.out]; exact hlt)).1
        have HStep : Hid (pracS (canAll l) (k + 1) = pinS (ps.map (·.2)) (canL (nth l k).pattern)) := Lib.hid (by rw [pracS_step (by rw [canAll_len, ← Hn.out]; exact hlt), canAll_nth _ _ (by rw [← Hn.out]; exact hlt), HAc.out])
        have hpl : ps.length ≤ 100 := by
          have h1 := congrArg List.length HAc.out
          rw [List.length_map] at h1
          have := pracS_len (canAll l) k
          omega
        have hnl : n' ≤ 100 := by have := HR.out.len; omega
        have Hnl := Lib.hid HR.out.len
        have hcap := HR.out.cap
        have HQ := Lib.hid (l24Canonical_c (.slice pa pn pc) (nth l k).pattern wr hp hokx)
        clear hp hokx
        generalize nth l k = x at *
        go_wp2_with fail
        refine HQ.out.mono ?_
        rintro e w1 ⟨xa, xn, xc, rfl, ho1, hb1⟩
        have hszr := hb.size
        have HFr : Hid (∀ q ∈ ps, ∀ g, q.1.ownBlock = some g → (Value.slice xa xn xc).ownBlock ≠ some g) := Lib.hid (fun q hq g hg e => by
          have h1 := ((HR.out.2.1 q hq).2.1.lt g hg).2
          have h2 := (ho1.lt g e).1
          omega)
        have HX1 : Hid (OwnInts w1 w0.heap.size (.slice xa xn xc) (canL x.pattern)) := Lib.hid (own_mono ho1 hszr)
        have HR1 := Lib.hid (HR.out.below hb1)
        clear ho1 HQ HR c0
        go_wp2
        go_loopw [7] (fun kk wq => ∃ p : Nat, kk = .int .i64 p ∧ p ≤ n' ∧ Hid (posB ltP (ps.map (·.2)) (canL x.pattern) (ps.map (·.2)).length = posB ltP (ps.map (·.2)) (canL x.pattern) p) ∧ Below w1.heap.size w1 wq) (fun kk _ => (intOf kk).toNat)
        case atStart => exact ⟨n', rfl, Nat.le_refl _, Lib.hid (by rw [List.length_map, ← Hnl.out]), Below.refl _ _⟩
        case round =>
          obtain ⟨p, rfl, hp, HP, hbq⟩ := hrel
          by_cases hp0 : p = 0
          · subst hp0
            have HPos : Hid (posB ltP (ps.map (·.2)) (canL x.pattern) (ps.map (·.2)).length = 0) := Lib.hid (by rw [HP.out]; rfl)
            have HR := Lib.hid (HR1.out.below hbq)
            have HX := Lib.hid (own_below HX1.out hbq)
            generalize hwq : wr = wq at *
            clear hwq
            have RD1 : Hid (∀ W, Below wq.heap.size wq W → Reads W W.heap.size 1 a' 0 ((ps.take 0).map (·.1))) := Lib.hid (fun W h => (HR.out.below h).readsT (Nat.zero_le _))
            have RD2 : Hid (∀ W, Below wq.heap.size wq W → Reads W W.heap.size 1 a' n' ((ps.drop 0).map (·.1))) := Lib.hid (fun W h => by
              have := (HR.out.below h).readsD (Nat.zero_le n')
              rw [pmap_zero, Nat.sub_zero] at this
              exact this)
            clear HP
            have hszq := hbq.size
            go_wp2_with (at_builtin; refine wpList_app_lists rfl _ _ rfl wq.heap.size _ 0 [] rfl (World.ownsRow_lit wq #[] 0 (Nat.le_refl _) (by decide) rfl) _ 0 _ _ rfl (RD1.out _ ((Below.refl wq.heap.size wq).alloc (Nat.le_refl _) _)) (HR.out.one _ (fun q hq => List.mem_of_mem_take hq)) (by have := Hnl.out; omega) (by simp) ?_)
            intro a4 n4 c4 w4 hn4 ho4 hg4 _
            have hb4 : Below wq.heap.size wq w4 := ((Below.refl _ _).alloc (Nat.le_refl _) _).grown hg4 (by simp) (fun g hg => by simp [Value.ownBlock] at hg; omega)
            have HO4 : Hid (w4.ownsRow wq.heap.size 24 1 (.slice a4 n4 c4) 0 ((ps.take 0).map (·.1))) := Lib.hid (by simpa using ho4)
            clear ho4 hg4 hn4
            have hs4 := hb4.size
            go_wp2_with (at_builtin; refine wpList_app_lists rfl _ _ rfl wq.heap.size _ _ _ rfl (HO4.out.alloc _) _ 1 1 [.slice xa xn xc] rfl (oneList _ _ _) (by intro y hy; simp at hy; subst hy; rfl) (by have := Hnl.out; omega) (by simp; omega) ?_)
            intro a5 n5 c5 w5 hn5 ho5 hg5 _
            have hb5 : Below wq.heap.size wq w5 := (hb4.alloc (by omega) _).grown hg5 (by simp; omega) (fun g hg => (World.ownsRow.lt HO4.out g hg).1)
            have HO5 := Lib.hid ho5
            clear ho5 hg5 hn5
            go_wp2_with (at_builtin; refine wpList_app_lists rfl _ _ rfl wq.heap.size _ _ _ rfl HO5.out _ n' _ _ rfl (RD2.out _ hb5) (HR.out.one _ (fun q hq => List.mem_of_mem_drop hq)) (by have := Hnl.out; omega) hb5.size ?_)
            intro a6 n6 c6 w6 hn6 ho6 hg6 _
            have hb6 : Below wq.heap.size wq w6 := hb5.grown hg6 hb5.size (fun g hg => (World.ownsRow.lt HO5.out g hg).1)
            have HRow : Hid (RowP w6 w0.heap.size (.slice a6 n6 c6) (ps.take 0 ++ (.slice xa xn xc, canL x.pattern) :: ps.drop 0)) := Lib.hid (HR.out.put (p := 0) (v' := .slice a6 n6 c6) HX.out ⟨_, _, _, rfl⟩ HFr.out hb6 (by
              have e : 0 + 1 + n' = ps.length + 1 := by have := HR.out.len; omega
              rw [e] at ho6
              first | simpa using ho6 | simpa [← List.map_drop, hdn] using ho6) (by have := hb1.size; omega))
            have HAcc : Hid ((ps.take 0 ++ (.slice xa xn xc, canL x.pattern) :: ps.drop 0).map (·.2) = pracS (canAll l) (k + 1)) := Lib.hid (by
              rw [HStep.out, pins_no HPos.out (.inl rfl), List.map_append, List.map_cons, List.map_take, List.map_drop])
            have hbk := bthen (bthen (bthen hb hb1) hbq) hb6
            clear ho6 hg6 HO5 HO4 hn6 HR HX HFr HAc HStep HPos RD1
            go_wp2
            exact ⟨⟨k + 1, a6, n6, c6, _, by go_num, hlt, rfl, HRow, HAcc, hbk⟩, by simp [intOf]; omega⟩
          · have HR := Lib.hid (HR1.out.below hbq)
            have HX := Lib.hid (own_below HX1.out hbq)
            have hn0 : 0 < n' := by omega
            obtain ⟨g, rfl, -, -⟩ := HR.out.head hn0
            have hp1 : p - 1 < ps.length := by have := Hnl.out; omega
            obtain ⟨⟨qa, qn, qc, hqv⟩, hqi⟩ := HR.out.ints (p - 1) hp1
            have e1 := HR.out.cell (p - 1) hp1
            rw [hqv] at e1 hqi
            have hw1 : IntKind.i64.wrap ((p : Int) - 1) = (p : Int) - 1 := IntWalk.i64_in _ (by omega)
            have hi0 : (0 : Int) ≤ (p : Int) - 1 := by omega
            have hi1 : (p : Int) - 1 < (n' : Int) := by omega
            have hi2 : ((p : Int) - 1).toNat = p - 1 := by omega
            have hd : decide (0 < p) = true := decide_eq_true (by omega)
            have hpI : (0 : Int) < (p : Int) := by omega
            have HK := Lib.hid (l02Compare_c (.slice qa qn qc) (.slice xa xn xc) (nth (ps.map (·.2)) (p - 1)) (canL x.pattern) wr hqi (OwnInts.at HX.out))
            have hps : posB ltP (ps.map (·.2)) (canL x.pattern) p = if ltP (canL x.pattern) (nth (ps.map (·.2)) (p - 1)) = true then posB ltP (ps.map (·.2)) (canL x.pattern) (p - 1) else p := by
              obtain ⟨q, rfl⟩ : ∃ q, p = q + 1 := ⟨p - 1, by omega⟩
              rfl
            have hcs := cmpL_swp (canL x.pattern) (nth (ps.map (·.2)) (p - 1))
            clear hqv
            by_cases hgt : ltP (canL x.pattern) (nth (ps.map (·.2)) (p - 1)) = true
            · have HP2 : Hid (posB ltP (ps.map (·.2)) (canL x.pattern) (ps.map (·.2)).length = posB ltP (ps.map (·.2)) (canL x.pattern) (p - 1)) := Lib.hid (by rw [HP.out, hps, if_pos hgt])
              have hz : 0 < cmpL (nth (ps.map (·.2)) (p - 1)) (canL x.pattern) := by
                unfold ltP at hgt
                have := of_decide_eq_true hgt
                omega
              generalize cmpL (nth (ps.map (·.2)) (p - 1)) (canL x.pattern) = z at *
              clear hgt hps hcs HP hqi
              go_wp2_with fail
              refine HK.out.mono ?_
              rintro e w3 ⟨rfl, hb3⟩
              have hbq3 := bthen hbq hb3
              clear HK e1 HR HX hb3 hbq
              go_wp2
              exact ⟨⟨p - 1, by go_num, by omega, HP2, hbq3⟩, by simp [intOf]; omega⟩
            · have HPos : Hid (posB ltP (ps.map (·.2)) (canL x.pattern) (ps.map (·.2)).length = p) := Lib.hid (by rw [HP.out, hps, if_neg hgt])
              have hz : ¬ 0 < cmpL (nth (ps.map (·.2)) (p - 1)) (canL x.pattern) := by
                intro h
                exact hgt (by unfold ltP; exact decide_eq_true (by omega))
              generalize cmpL (nth (ps.map (·.2)) (p - 1)) (canL x.pattern) = z at *
              clear hgt hps hcs HP
              have HQi := Lib.hid hqi
              have HE1 := Lib.hid e1
              clear hqi
              go_wp2_with fail
              refine HK.out.mono ?_
              rintro e w3 ⟨rfl, hb3⟩
              have e2 := cell_then (World.block_lt_of_cell? _ _ HE1.out) HE1.out hb3
              have HK2 := Lib.hid (sSame_c (.slice qa qn qc) (.slice xa xn xc) (nth (ps.map (·.2)) (p - 1)) (canL x.pattern) w3 (HQi.out.below hb3) ((OwnInts.at HX.out).below hb3))
              replace HR := Lib.hid (HR.out.below hb3)
              replace HX := Lib.hid (own_below HX.out hb3)
              replace hbq := bthen hbq hb3
              clear HK HQi HE1 e1 hb3
              cases hsm : same2 eqI (nth (ps.map (·.2)) (p - 1)) (canL x.pattern)
              · have hne : nth (ps.map (·.2)) (p - 1) ≠ canL x.pattern := fun h => by rw [(same2_iff eqI eqI_iff _ _).2 h] at hsm; exact absurd hsm (by decide)
                have Hne := Lib.hid hne
                rw [hsm] at HK2
                clear hsm hne
                go_wp2_with fail
                refine HK2.out.mono ?_
                rintro e wq4 ⟨rfl, hb4⟩
                replace HR := Lib.hid (HR.out.below hb4)
                replace HX := Lib.hid (own_below HX.out hb4)
                replace hbq := bthen hbq hb4
                clear HK2 e2 hb4
                generalize hwe : wq4 = wq at *
                clear hwe
                have RD1 : Hid (∀ W, Below wq.heap.size wq W → Reads W W.heap.size 1 (some ⟨g, 0, none⟩) p ((ps.take p).map (·.1))) := Lib.hid (fun W h => (HR.out.below h).readsT hp)
                have RD2 : Hid (∀ W, Below wq.heap.size wq W → Reads W W.heap.size 1 (some ⟨g, p, none⟩) (n' - p) ((ps.drop p).map (·.1))) := Lib.hid (fun W h => by
                  have := (HR.out.below h).readsD hp
                  rw [Option.map_some, paddnone, Nat.zero_add] at this
                  exact this)
                by_cases hcp : c' = p
                · obtain rfl : n' = p := by omega
                  subst hcp
                  have hdn : ps.drop c' = [] := List.drop_eq_nil_of_le (by have := Hnl.out; omega)
                  have hszq := hbq.size
                  go_wp2_with (at_builtin; refine wpList_app_lists rfl _ _ rfl wq.heap.size _ 0 [] rfl (World.ownsRow_lit wq #[] 0 (Nat.le_refl _) (by decide) rfl) _ c' _ _ rfl (RD1.out _ ((Below.refl wq.heap.size wq).alloc (Nat.le_refl _) _)) (HR.out.one _ (fun q hq => List.mem_of_mem_take hq)) (by have := Hnl.out; omega) (by simp) ?_)
                  intro a4 n4 c4 w4 hn4 ho4 hg4 _
                  have hb4 : Below wq.heap.size wq w4 := ((Below.refl _ _).alloc (Nat.le_refl _) _).grown hg4 (by simp) (fun g hg => by simp [Value.ownBlock] at hg; omega)
                  have HO4 : Hid (w4.ownsRow wq.heap.size 24 1 (.slice a4 n4 c4) c' ((ps.take c').map (·.1))) := Lib.hid (by simpa using ho4)
                  clear ho4 hg4 hn4
                  have hs4 := hb4.size
                  go_wp2_with (at_builtin; refine wpList_app_lists rfl _ _ rfl wq.heap.size _ _ _ rfl (HO4.out.alloc _) _ 1 1 [.slice xa xn xc] rfl (oneList _ _ _) (by intro y hy; simp at hy; subst hy; rfl) (by have := Hnl.out; omega) (by simp; omega) ?_)
                  intro a5 n5 c5 w5 hn5 ho5 hg5 _
                  have hb5 : Below wq.heap.size wq w5 := (hb4.alloc (by omega) _).grown hg5 (by simp; omega) (fun g hg => (World.ownsRow.lt HO4.out g hg).1)
                  have HO5 := Lib.hid ho5
                  clear ho5 hg5 hn5
                  go_wp2_with (at_builtin; refine wpList_app_lists rfl _ _ rfl wq.heap.size _ _ _ rfl HO5.out _ 0 _ _ rfl ((by rw [hdn]; exact ⟨rfl, fun h => absurd h (Nat.lt_irrefl _)⟩)) (HR.out.one _ (fun q hq => List.mem_of_mem_drop hq)) (by have := Hnl.out; omega) hb5.size ?_)
                  intro a6 n6 c6 w6 hn6 ho6 hg6 _
                  have hb6 : Below wq.heap.size wq w6 := hb5.grown hg6 hb5.size (fun g hg => (World.ownsRow.lt HO5.out g hg).1)
                  have HRow : Hid (RowP w6 w0.heap.size (.slice a6 n6 c6) (ps.take c' ++ (.slice xa xn xc, canL x.pattern) :: ps.drop c')) := Lib.hid (HR.out.put (p := c') (v' := .slice a6 n6 c6) HX.out ⟨_, _, _, rfl⟩ HFr.out hb6 (by
                    have e : c' + 1 + 0 = ps.length + 1 := by have := HR.out.len; omega
                    rw [e] at ho6
                    first | simpa using ho6 | simpa [← List.map_drop, hdn] using ho6) (by have := hb1.size; omega))
                  have HAcc : Hid ((ps.take c' ++ (.slice xa xn xc, canL x.pattern) :: ps.drop c').map (·.2) = pracS (canAll l) (k + 1)) := Lib.hid (by
                    rw [HStep.out, pins_no HPos.out (.inr Hne.out), List.map_append, List.map_cons, List.map_take, List.map_drop])
                  have hbk := bthen (bthen (bthen hb hb1) hbq) hb6
                  clear ho6 hg6 HO5 HO4 hn6 HR HX HFr HAc HStep HPos RD1
                  go_wp2
                  exact ⟨⟨k + 1, a6, n6, c6, _, by go_num, hlt, rfl, HRow, HAcc, hbk⟩, by simp [intOf]; omega⟩
                · skip
                  have hszq := hbq.size
                  go_wp2_with (at_builtin; refine wpList_app_lists rfl _ _ rfl wq.heap.size _ 0 [] rfl (World.ownsRow_lit wq #[] 0 (Nat.le_refl _) (by decide) rfl) _ p _ _ rfl (RD1.out _ ((Below.refl wq.heap.size wq).alloc (Nat.le_refl _) _)) (HR.out.one _ (fun q hq => List.mem_of_mem_take hq)) (by have := Hnl.out; omega) (by simp) ?_)
                  intro a4 n4 c4 w4 hn4 ho4 hg4 _
                  have hb4 : Below wq.heap.size wq w4 := ((Below.refl _ _).alloc (Nat.le_refl _) _).grown hg4 (by simp) (fun g hg => by simp [Value.ownBlock] at hg; omega)
                  have HO4 : Hid (w4.ownsRow wq.heap.size 24 1 (.slice a4 n4 c4) p ((ps.take p).map (·.1))) := Lib.hid (by simpa using ho4)
                  clear ho4 hg4 hn4
                  have hs4 := hb4.size
                  go_wp2_with (at_builtin; refine wpList_app_lists rfl _ _ rfl wq.heap.size _ _ _ rfl (HO4.out.alloc _) _ 1 1 [.slice xa xn xc] rfl (oneList _ _ _) (by intro y hy; simp at hy; subst hy; rfl) (by have := Hnl.out; omega) (by simp; omega) ?_)
                  intro a5 n5 c5 w5 hn5 ho5 hg5 _
                  have hb5 : Below wq.heap.size wq w5 := (hb4.alloc (by omega) _).grown hg5 (by simp; omega) (fun g hg => (World.ownsRow.lt HO4.out g hg).1)
                  have HO5 := Lib.hid ho5
                  clear ho5 hg5 hn5
                  go_wp2_with (at_builtin; refine wpList_app_lists rfl _ _ rfl wq.heap.size _ _ _ rfl HO5.out _ (n' - p) _ _ rfl (RD2.out _ hb5) (HR.out.one _ (fun q hq => List.mem_of_mem_drop hq)) (by have := Hnl.out; omega) hb5.size ?_)
                  intro a6 n6 c6 w6 hn6 ho6 hg6 _
                  have hb6 : Below wq.heap.size wq w6 := hb5.grown hg6 hb5.size (fun g hg => (World.ownsRow.lt HO5.out g hg).1)
                  have HRow : Hid (RowP w6 w0.heap.size (.slice a6 n6 c6) (ps.take p ++ (.slice xa xn xc, canL x.pattern) :: ps.drop p)) := Lib.hid (HR.out.put (p := p) (v' := .slice a6 n6 c6) HX.out ⟨_, _, _, rfl⟩ HFr.out hb6 (by
                    have e : p + 1 + (n' - p) = ps.length + 1 := by have := HR.out.len; omega
                    rw [e] at ho6
                    first | simpa using ho6 | simpa [← List.map_drop, hdn] using ho6) (by have := hb1.size; omega))
                  have HAcc : Hid ((ps.take p ++ (.slice xa xn xc, canL x.pattern) :: ps.drop p).map (·.2) = pracS (canAll l) (k + 1)) := Lib.hid (by
                    rw [HStep.out, pins_no HPos.out (.inr Hne.out), List.map_append, List.map_cons, List.map_take, List.map_drop])
                  have hbk := bthen (bthen (bthen hb hb1) hbq) hb6
                  clear ho6 hg6 HO5 HO4 hn6 HR HX HFr HAc HStep HPos RD1
                  go_wp2
                  exact ⟨⟨k + 1, a6, n6, c6, _, by go_num, hlt, rfl, HRow, HAcc, hbk⟩, by simp [intOf]; omega⟩
              · have heq := (same2_iff eqI eqI_iff _ _).1 hsm
                have HAcc : Hid (ps.map (·.2) = pracS (canAll l) (k + 1)) := Lib.hid (by rw [HStep.out, pins_yes HPos.out (by omega) heq])
                rw [hsm] at HK2
                clear hsm heq
                go_wp2_with fail
                refine HK2.out.mono ?_
                rintro e w4 ⟨rfl, hb4⟩
                replace HR := Lib.hid (HR.out.below hb4)
                have hbk := bthen (bthen (bthen hb hb1) hbq) hb4
                clear HK2 e2 hb4 HX HStep HPos HFr
                go_wp2
                exact ⟨⟨k + 1, _, n', c', ps, by go_num, hlt, rfl, HR, HAcc, hbk⟩, by simp [intOf]; omega⟩
      · obtain rfl : k = n := by omega
        have HRo := Lib.hid HR.out.own
        rw [HAc.out, Hn.out, ← HL.out] at HRo
        go_wp2
        go_ret2
        exact GivesIntssC.mk HC.out (HRo.out.mono hs0) (bthen hb0 hb)
  · have hokf : okAtts l = false := by simpa using hok
    rw [hokf] at hq
    obtain ⟨hL, hC⟩ := pracL_no hokf
    have HL := Lib.hid hL
    have HC := Lib.hid hC
    clear hv hL hC hok hokf
    go_enter Tryz.func27, Tryz.ntmps27
    go_wp2_with fail
    refine hq.mono ?_
    rintro e w0 ⟨rfl, hb0⟩
    go_wp2
    go_ret2
    exact GivesIntssC.none HL.out HC.out hb0
end Go.Proofs.YtclffohjpbmnbaaGreatDoor
