/- ItemPut: an item put in its place (spec), items put in order (impl). -/
import Derived.Test.YthnkhpebaeloeaaItemRem
import Derived.Test.YthnkhpebaeloeaaSortK
import Derived.Deep.RegionHeld3
namespace Go.Proofs.Ythnkhpebaeloeaa
open Go.ChangeShapes Go.WideShapes Go.ChangeAt Go.RowKit

theorem iadd_none (b o j : Nat) : (⟨b, o, none⟩ : Addr).add j = ⟨b, o + j, none⟩ := by
  unfold Addr.add
  split
  · rename_i h; subst h; rfl
  · rfl
theorem map_add_zero (a : Option Addr) : a.map (fun x => x.add 0) = a := by
  cases a
  · rfl
  · rename_i x; unfold Addr.add; simp
theorem lessB_asym' {a b : ByteArray} (h : lessB a b = true) : lessB b a = false := swo_asym (swo_ltN (id : ByteArray → ByteArray)) h
theorem lessB_trans' {a b c : ByteArray} (h1 : lessB a b = true) (h2 : lessB b c = true) : lessB a c = true := (swo_ltN (id : ByteArray → ByteArray)).trans _ _ _ h1 h2
theorem okItems_pw {l : List Item} (h : okItems l = true) : l.Pairwise (fun a b => lessB a.name b.name = true) := by
  have hc : ∀ k, k < l.length → 0 < k → lessB (nth l (k - 1)).name (nth l k).name = true := by
    intro k hk h0
    have := okItems_at h hk
    unfold okItemAt at this
    simp only [Bool.and_eq_true] at this
    have ho := this.2.2.2.1
    unfold ordAt at ho
    rw [decide_eq_false (by omega), Bool.false_or] at ho
    exact ho
  have hg : ∀ j, j < l.length → ∀ i, i < j → lessB (nth l i).name (nth l j).name = true := by
    intro j
    induction j with
    | zero => intro _ i hi; omega
    | succ j ih =>
      intro hj i hi
      have h1 := hc (j + 1) hj (by omega)
      rw [Nat.add_sub_cancel] at h1
      rcases Nat.lt_or_ge i j with h2 | h2
      · exact lessB_trans' (ih (by omega) i h2) h1
      · obtain rfl : i = j := by omega
        exact h1
  refine List.pairwise_iff_getElem.2 fun i j hi hj hij => ?_
  rw [← nth_eq l i hi, ← nth_eq l j hj]
  exact hg j hj i hij

set_option maxRecDepth 100000 in
set_option maxHeartbeats 4000000 in
theorem l22Put_c (v : Value) (ua : Option Addr) (un uc : Nat) (l : List Item) (x : Item) (w : World) (hv : ItemsAt w v l) (hu : IntsAt w (.slice ua un uc) x.pattern) (hx : x.name.size ≤ 9223372036854775807) (hl1000 : l.length ≤ 1000000) :
    Calls Try.prog 86 #[v, .agg #[.string x.name, .slice ua un uc]] w (fun e w' => ∃ a n c, e = .returned (.slice a n c) ∧ ItemsAt w' (.slice a n c) (insB (ltN Item.name) l x) ∧ Below w.heap.size w w') := by
  have HV := Lib.hid hv
  have HU := Lib.hid hu; clear hu
  have HS : Hid (itemS.ok x) := Lib.hid hx
  obtain ⟨a, n, cap, rfl, hn, hl, hm, hc⟩ := hv
  have Hc := Lib.hid hc; clear hc
  have hn1000 : n ≤ 1000000 := by omega
  have Hn := Lib.hid hn; clear hn hl1000
  go_enter Try.func86, Try.ntmps86
  go_wp2
  go_loopw [5] (fun kk wr => ∃ p : Nat, kk = .int .i64 p ∧ p ≤ n ∧ Hid (posB (ltN Item.name) l x l.length = posB (ltN Item.name) l x p) ∧ Hid (BoxIs wr w.heap.size [.string x.name, .slice ua un uc]) ∧ Below w.heap.size w wr) (fun kk _ => (intOf kk).toNat)
  case atStart => exact ⟨n, rfl, Nat.le_refl _, Lib.hid (by rw [← Hn.out]), Lib.hid (BoxIs.new w [.string x.name, .slice ua un uc] 93), by go_grown⟩
  case round =>
    obtain ⟨p, rfl, hp, HP, HBX, hbr⟩ := hrel
    have hb0 : Below w.heap.size w w := Below.refl _ _
    have hsz := (bthen hb0 hbr).size
    have OUT : Hid (p = posB (ltN Item.name) l x l.length → l.take p ++ x :: l.drop p = insB (ltN Item.name) l x) := Lib.hid (fun h => by unfold insB; rw [← h])
    obtain ⟨ps, hps, hrd, hpp⟩ := nest_reads (nest_take Hc.out p)
    obtain ⟨qs, hqs, hqd, hqp⟩ := nest_reads (nest_drop Hc.out p)
    have hlt : (l.take p).length = p := by rw [List.length_take, ← Hn.out]; omega
    have hld : (l.drop p).length = n - p := by rw [List.length_drop, ← Hn.out]
    have HPl : Hid (ps.length = p) := Lib.hid (by rw [← hlt, ← hps]; simp)
    have HQl : Hid (qs.length = n - p) := Lib.hid (by rw [← hld, ← hqs]; simp)
    rw [hlt] at hrd
    rw [hld] at hqd
    have HRd : Hid (∀ W, Below w.heap.size w W → Reads W W.heap.size 2 a p (ps.flatMap fun p => itemS.enc p.1 p.2)) := Lib.hid (fun W h => (hrd.below h).more h.size)
    have HQd : Hid (∀ W, Below w.heap.size w W → Reads W W.heap.size 2 (a.map fun x => x.add (p * 2)) (n - p) (qs.flatMap fun p => itemS.enc p.1 p.2)) := Lib.hid (fun W h => (hqd.below h).more h.size)
    have HPp := Lib.hid hpp; have HQp := Lib.hid hqp; have Hps := Lib.hid hps; have Hqs := Lib.hid hqs
    clear hps hrd hpp hqs hqd hqp hlt hld
    by_cases hp0 : p = 0
    · subst hp0
      have HE : Hid (l.take 0 ++ x :: l.drop 0 = insB (ltN Item.name) l x) := Lib.hid (OUT.out (by rw [HP.out]; rfl))
      clear OUT HP
      have hx0 := HBX.out.2.1 0
      go_wp2
      go_quiet (fail)
      clear hx0
      have hbr := below_drewN hbr nq
      have HBX : Hid (BoxIs (wr.drewN nq) w.heap.size [.string x.name, .slice ua un uc]) := Lib.hid HBX.out
      have hsz := (bthen hb0 hbr).size
      generalize wr.drewN nq = wr at *
      go_wp2_with (at_builtin; refine wpList_app_items rfl _ _ rfl wr.heap.size _ 0 [] rfl (World.ownsRow_lit wr #[] 0 (Nat.le_refl _) (by decide) rfl) _ 0 _ _ rfl (HRd.out _ ((bthen hb0 hbr).alloc hsz _)) (items_one ps fun q hq => (HPp.out q hq).1) (by omega) (by simp) ?_)
      intro a4 n4 c4 w4 hn4 ho4 hg4 _
      have hb4 : Below wr.heap.size wr w4 := ((Below.refl _ _).alloc (Nat.le_refl _) _).grown hg4 (by simp) (fun g hg => by simp [Value.ownBlock] at hg; omega)
      have HO4 : Hid (w4.ownsRow wr.heap.size 93 2 (.slice a4 n4 c4) 0 (ps.flatMap fun q => itemS.enc q.1 q.2)) := Lib.hid (by simpa using ho4)
      clear ho4 hg4 hn4
      have hs4 := hb4.size
      have hx0 := (HBX.out.below hb4).2.1 0
      have hx1 := (HBX.out.below hb4).2.1 1
      go_wp2_with (at_builtin; refine wpList_app_items rfl _ _ rfl wr.heap.size _ _ _ rfl (HO4.out.alloc _) _ 1 1 [.string x.name, .slice ua un uc] rfl (item_new _ _ _ _) (by intro y hy; simp at hy; rcases hy with rfl | rfl <;> rfl) (by omega) (by simp; omega) ?_)
      intro a5 n5 c5 w5 hn5 ho5 hg5 _
      have hb5 : Below wr.heap.size wr w5 := (hb4.alloc (by omega) _).grown hg5 (by simp; omega) (fun g hg => (World.ownsRow.lt HO4.out g hg).1)
      have HO5 := Lib.hid ho5
      clear ho5 hg5 hn5 hx0 hx1
      go_wp2_with (at_builtin; refine wpList_app_items rfl _ _ rfl wr.heap.size _ _ _ rfl HO5.out _ n _ _ rfl (by have h := HQd.out _ (bthen (bthen hb0 hbr) hb5); rw [Nat.zero_mul, map_add_zero, Nat.sub_zero] at h; exact h) (items_one qs fun q hq => (HQp.out q hq).1) (by omega) hb5.size ?_)
      intro a6 n6 c6 w6 hn6 ho6 hg6 _
      have hb6 : Below wr.heap.size wr w6 := hb5.grown hg6 hb5.size (fun g hg => (World.ownsRow.lt HO5.out g hg).1)
      have hbw6 := bthen (bthen hb0 hbr) hb6
      have HAT : Hid (ItemsAt w6 (.slice a6 n6 c6) (insB (ltN Item.name) l x)) := Lib.hid (by
        have h := nest_at_row (S := itemS) (T := 93) (base := wr.heap.size) (v := .slice a6 n6 c6) (ps := ps ++ [(.slice ua un uc, x)] ++ qs) (w := w6) (by
          rw [List.flatMap_append, List.flatMap_append, List.length_append, List.length_append, HPl.out, HQl.out]
          have h0 := ho6
          simpa [itemS] using h0) (fun q hq => by
          rcases List.mem_append.1 hq with h | h
          · rcases List.mem_append.1 h with h | h
            · exact ⟨(HPp.out q h).1, (HPp.out q h).2.1.below hbw6, (HPp.out q h).2.2⟩
            · simp at h; subst h
              exact ⟨⟨_, _, _, rfl⟩, HU.out.below hbw6, HS.out⟩
          · exact ⟨(HQp.out q h).1, (HQp.out q h).2.1.below hbw6, (HQp.out q h).2.2⟩)
        rw [List.map_append, List.map_append, Hps.out, Hqs.out] at h
        have e : l.take 0 ++ [x] ++ l.drop 0 = insB (ltN Item.name) l x := by rw [← HE.out]; simp
        rw [← e]
        exact h)
      clear ho6 hg6 HO5 HO4 hn6
      go_wp2
      go_ret
      exact ⟨_, _, _, rfl, HAT.out, hbw6⟩
    · obtain ⟨b5, o5, pa5, pn5, pc5, rfl, hb5', -, -, f0, -⟩ := item_cells (Hc.out.below (bthen hb0 hbr)) (p - 1) (by rw [← Hn.out]; omega)
      have hps : posB (ltN Item.name) l x p = if lessB x.name (nth l (p - 1)).name = true then posB (ltN Item.name) l x (p - 1) else p := by
        obtain ⟨q, rfl⟩ : ∃ q, p = q + 1 := ⟨p - 1, by omega⟩
        rfl
      have hg := lessB_leq (nth l (p - 1)).name x.name
      have hx0 := HBX.out.2.1 0
      have hw1 : IntKind.i64.wrap ((p : Int) - 1) = (p : Int) - 1 := IntWalk.i64_in _ (by omega)
      have hi0 : (0 : Int) ≤ (p : Int) - 1 := by omega
      have hi1 : (p : Int) - 1 < (n : Int) := by omega
      have hi2 : ((p : Int) - 1).toNat = p - 1 := by omega
      have hd : decide (0 < p) = true := decide_eq_true (by omega)
      generalize (nth l (p - 1)).name = y at *
      cases hxy : lessB x.name y
      · have HP2 : Hid (posB (ltN Item.name) l x l.length = p) := Lib.hid (by rw [HP.out, hps, if_neg (by rw [hxy]; decide)])
        rw [hxy] at hg
        have HE : Hid (l.take p ++ x :: l.drop p = insB (ltN Item.name) l x) := Lib.hid (OUT.out HP2.out.symm)
        clear hps HP hxy OUT HP2
        by_cases hcp : cap = p
        · obtain rfl : n = p := by omega
          have hcp2 := hcp.symm
          subst hcp2
          go_wp2
          go_quiet (fail)
          clear hx0 f0 hw1 hi0 hi1 hi2 hd hg
          have hbr := below_drewN hbr nq
          have HBX : Hid (BoxIs (wr.drewN nq) w.heap.size [.string x.name, .slice ua un uc]) := Lib.hid HBX.out
          have hsz := (bthen hb0 hbr).size
          generalize wr.drewN nq = wr at *
          go_wp2_with (at_builtin; refine wpList_app_items rfl _ _ rfl wr.heap.size _ 0 [] rfl (World.ownsRow_lit wr #[] 0 (Nat.le_refl _) (by decide) rfl) _ n _ _ rfl (HRd.out _ ((bthen hb0 hbr).alloc hsz _)) (items_one ps fun q hq => (HPp.out q hq).1) (by omega) (by simp) ?_)
          intro a4 n4 c4 w4 hn4 ho4 hg4 _
          have hb4 : Below wr.heap.size wr w4 := ((Below.refl _ _).alloc (Nat.le_refl _) _).grown hg4 (by simp) (fun g hg => by simp [Value.ownBlock] at hg; omega)
          have HO4 : Hid (w4.ownsRow wr.heap.size 93 2 (.slice a4 n4 c4) n (ps.flatMap fun q => itemS.enc q.1 q.2)) := Lib.hid (by simpa using ho4)
          clear ho4 hg4 hn4
          have hs4 := hb4.size
          have hx0 := (HBX.out.below hb4).2.1 0
          have hx1 := (HBX.out.below hb4).2.1 1
          go_wp2_with (at_builtin; refine wpList_app_items rfl _ _ rfl wr.heap.size _ _ _ rfl (HO4.out.alloc _) _ 1 1 [.string x.name, .slice ua un uc] rfl (item_new _ _ _ _) (by intro y hy; simp at hy; rcases hy with rfl | rfl <;> rfl) (by omega) (by simp; omega) ?_)
          intro a5 n5 c5 w5 hn5 ho5 hg5 _
          have hb5 : Below wr.heap.size wr w5 := (hb4.alloc (by omega) _).grown hg5 (by simp; omega) (fun g hg => (World.ownsRow.lt HO4.out g hg).1)
          have HO5 := Lib.hid ho5
          clear ho5 hg5 hn5 hx0 hx1
          go_wp2_with (at_builtin; refine wpList_app_items rfl _ _ rfl wr.heap.size _ _ _ rfl HO5.out _ 0 _ _ rfl (by have := HQl.out; rw [List.eq_nil_of_length_eq_zero (show qs.length = 0 by omega)]; exact reads_none' _ _) (items_one qs fun q hq => (HQp.out q hq).1) (by omega) hb5.size ?_)
          intro a6 n6 c6 w6 hn6 ho6 hg6 _
          have hb6 : Below wr.heap.size wr w6 := hb5.grown hg6 hb5.size (fun g hg => (World.ownsRow.lt HO5.out g hg).1)
          have hbw6 := bthen (bthen hb0 hbr) hb6
          have HAT : Hid (ItemsAt w6 (.slice a6 n6 c6) (insB (ltN Item.name) l x)) := Lib.hid (by
            have h := nest_at_row (S := itemS) (T := 93) (base := wr.heap.size) (v := .slice a6 n6 c6) (ps := ps ++ [(.slice ua un uc, x)] ++ qs) (w := w6) (by
              rw [List.flatMap_append, List.flatMap_append, List.length_append, List.length_append, HPl.out, HQl.out]
              have h0 := ho6
              simpa [itemS] using h0) (fun q hq => by
              rcases List.mem_append.1 hq with h | h
              · rcases List.mem_append.1 h with h | h
                · exact ⟨(HPp.out q h).1, (HPp.out q h).2.1.below hbw6, (HPp.out q h).2.2⟩
                · simp at h; subst h
                  exact ⟨⟨_, _, _, rfl⟩, HU.out.below hbw6, HS.out⟩
              · exact ⟨(HQp.out q h).1, (HQp.out q h).2.1.below hbw6, (HQp.out q h).2.2⟩)
            rw [List.map_append, List.map_append, Hps.out, Hqs.out] at h
            have e : l.take n ++ [x] ++ l.drop n = insB (ltN Item.name) l x := by rw [← HE.out]; simp
            rw [← e]
            exact h)
          clear ho6 hg6 HO5 HO4 hn6
          go_wp2
          go_ret
          exact ⟨_, _, _, rfl, HAT.out, hbw6⟩
        · go_wp2
          go_quiet (fail)
          clear hx0 f0 hw1 hi0 hi1 hi2 hd hg
          have hbr := below_drewN hbr nq
          have HBX : Hid (BoxIs (wr.drewN nq) w.heap.size [.string x.name, .slice ua un uc]) := Lib.hid HBX.out
          have hsz := (bthen hb0 hbr).size
          generalize wr.drewN nq = wr at *
          go_wp2_with (at_builtin; refine wpList_app_items rfl _ _ rfl wr.heap.size _ 0 [] rfl (World.ownsRow_lit wr #[] 0 (Nat.le_refl _) (by decide) rfl) _ p _ _ rfl (HRd.out _ ((bthen hb0 hbr).alloc hsz _)) (items_one ps fun q hq => (HPp.out q hq).1) (by omega) (by simp) ?_)
          intro a4 n4 c4 w4 hn4 ho4 hg4 _
          have hb4 : Below wr.heap.size wr w4 := ((Below.refl _ _).alloc (Nat.le_refl _) _).grown hg4 (by simp) (fun g hg => by simp [Value.ownBlock] at hg; omega)
          have HO4 : Hid (w4.ownsRow wr.heap.size 93 2 (.slice a4 n4 c4) p (ps.flatMap fun q => itemS.enc q.1 q.2)) := Lib.hid (by simpa using ho4)
          clear ho4 hg4 hn4
          have hs4 := hb4.size
          have hx0 := (HBX.out.below hb4).2.1 0
          have hx1 := (HBX.out.below hb4).2.1 1
          go_wp2_with (at_builtin; refine wpList_app_items rfl _ _ rfl wr.heap.size _ _ _ rfl (HO4.out.alloc _) _ 1 1 [.string x.name, .slice ua un uc] rfl (item_new _ _ _ _) (by intro y hy; simp at hy; rcases hy with rfl | rfl <;> rfl) (by omega) (by simp; omega) ?_)
          intro a5 n5 c5 w5 hn5 ho5 hg5 _
          have hb5 : Below wr.heap.size wr w5 := (hb4.alloc (by omega) _).grown hg5 (by simp; omega) (fun g hg => (World.ownsRow.lt HO4.out g hg).1)
          have HO5 := Lib.hid ho5
          clear ho5 hg5 hn5 hx0 hx1
          go_wp2_with (at_builtin; refine wpList_app_items rfl _ _ rfl wr.heap.size _ _ _ rfl HO5.out _ (n - p) _ _ rfl (by have h := HQd.out _ (bthen (bthen hb0 hbr) hb5); rw [Option.map_some, iadd_none] at h; exact h) (items_one qs fun q hq => (HQp.out q hq).1) (by omega) hb5.size ?_)
          intro a6 n6 c6 w6 hn6 ho6 hg6 _
          have hb6 : Below wr.heap.size wr w6 := hb5.grown hg6 hb5.size (fun g hg => (World.ownsRow.lt HO5.out g hg).1)
          have hbw6 := bthen (bthen hb0 hbr) hb6
          have HAT : Hid (ItemsAt w6 (.slice a6 n6 c6) (insB (ltN Item.name) l x)) := Lib.hid (by
            have h := nest_at_row (S := itemS) (T := 93) (base := wr.heap.size) (v := .slice a6 n6 c6) (ps := ps ++ [(.slice ua un uc, x)] ++ qs) (w := w6) (by
              rw [List.flatMap_append, List.flatMap_append, List.length_append, List.length_append, HPl.out, HQl.out]
              have h0 := ho6
              simpa [itemS] using h0) (fun q hq => by
              rcases List.mem_append.1 hq with h | h
              · rcases List.mem_append.1 h with h | h
                · exact ⟨(HPp.out q h).1, (HPp.out q h).2.1.below hbw6, (HPp.out q h).2.2⟩
                · simp at h; subst h
                  exact ⟨⟨_, _, _, rfl⟩, HU.out.below hbw6, HS.out⟩
              · exact ⟨(HQp.out q h).1, (HQp.out q h).2.1.below hbw6, (HQp.out q h).2.2⟩)
            rw [List.map_append, List.map_append, Hps.out, Hqs.out] at h
            have e : l.take p ++ [x] ++ l.drop p = insB (ltN Item.name) l x := by rw [← HE.out]; simp
            rw [← e]
            exact h)
          clear ho6 hg6 HO5 HO4 hn6
          go_wp2
          go_ret
          exact ⟨_, _, _, rfl, HAT.out, hbw6⟩
      · have HP2 : Hid (posB (ltN Item.name) l x l.length = posB (ltN Item.name) l x (p - 1)) := Lib.hid (by rw [HP.out, hps, if_pos hxy])
        rw [hxy] at hg
        clear hps HP hxy OUT
        go_wp2
        go_quiet (fail)
        clear hx0 f0 hw1 hi0 hi1 hi2 hd hg
        have hbr := below_drewN hbr nq
        have HBX : Hid (BoxIs (wr.drewN nq) w.heap.size [.string x.name, .slice ua un uc]) := Lib.hid HBX.out
        have hsz := (bthen hb0 hbr).size
        generalize wr.drewN nq = wr at *
        go_wp2
        exact ⟨⟨p - 1, by go_num, by omega, HP2, HBX, hbr⟩, by simp [intOf]; omega⟩
end Go.Proofs.Ythnkhpebaeloeaa
