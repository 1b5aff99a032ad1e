import Derived.Test.YtcgbdhbdlnimhaaGreatMg29
import Derived.Test.YtcgbdhbdlnimhaaGreatMg39
import Derived.Deep.RegionHeld3
/- ItemPut: an item put in its place (spec), items put in order (impl). -/
namespace Go.Proofs.YtcgbdhbdlnimhaaGreat
open Go.ChangeShapes Go.WideShapes Go.ChangeAt Go.RowKit

theorem iadd_none (b o j : Nat) : (⟨b, o, none⟩ : Addr).add j = ⟨b, o + j, none⟩ := by
  unfold Addr.add
  split
  · rename_i h; subst h; rfl
  · rfl
theorem map_add_zero (a : Option Addr) : a.map (fun x => x.add 0) = a := by
  cases a
  · rfl
  · rename_i x; unfold Addr.add; simp
theorem lessB_asym' {a b : ByteArray} (h : lessB a b = true) : lessB b a = false := swo_asym (swo_ltN (id : ByteArray → ByteArray)) h
theorem lessB_trans' {a b c : ByteArray} (h1 : lessB a b = true) (h2 : lessB b c = true) : lessB a c = true := (swo_ltN (id : ByteArray → ByteArray)).trans _ _ _ h1 h2
theorem okItems_pw {l : List Item} (h : okItems l = true) : l.Pairwise (fun a b => lessB a.name b.name = true) := by
  have hc : ∀ k, k < l.length → 0 < k → lessB (nth l (k - 1)).name (nth l k).name = true := by
    intro k hk h0
    have := okItems_at h hk
    unfold okItemAt at this
    simp only [Bool.and_eq_true] at this
    have ho := this.2.2.2.1
    unfold ordAt at ho
    rw [decide_eq_false (by omega), Bool.false_or] at ho
    exact ho
  have hg : ∀ j, j < l.length → ∀ i, i < j → lessB (nth l i).name (nth l j).name = true := by
    intro j
    induction j with
    | zero => intro _ i hi; omega
    | succ j ih =>
      intro hj i hi
      have h1 := hc (j + 1) hj (by omega)
      rw [Nat.add_sub_cancel] at h1
      rcases Nat.lt_or_ge i j with h2 | h2
      · exact lessB_trans' (ih (by omega) i h2) h1
      · obtain rfl : i = j := by omega
        exact h1
  refine List.pairwise_iff_getElem.2 fun i j hi hj hij => ?_
  rw [← nth_eq l i hi, ← nth_eq l j hj]
  exact hg j hj i hij

set_option maxRecDepth 100000 in
set_option maxHeartbeats 4000000 in
theorem l22Put_c (v : Value) (ua : Option Addr) (un uc : Nat) (l : List Item) (x : Item) (w : World) (hv : ItemsAt w v l) (hu : IntsAt w (.slice ua un uc) x.pattern) (hx : x.name.size ≤ 9223372036854775807) (hl1000 : l.length ≤ 1000000) :
    Calls Tryz.prog 62 #[v, .agg #[.string x.name, .slice ua un uc]] w (fun e w' => ∃ a n c, e = .returned (.slice a n c) ∧ ItemsAt w' (.slice a n c) (insB (ltN Item.name) l x) ∧ Below w.heap.size w w') := by
  have HV := Lib.hid hv
  have HU := Lib.hid hu; clear hu
  have HS : Hid (itemS.ok x) := Lib.hid hx
  obtain ⟨a, n, cap, rfl, hn, hl, hm, hc⟩ := hv
  have Hc := Lib.hid hc; clear hc
  have hn1000 : n ≤ 1000000 := by omega
  have Hn := Lib.hid hn; clear hn hl1000
  go_enter Tryz.func62, Tryz.ntmps62
  go_wp2
  go_loopw [5] (fun kk wr => ∃ p : Nat, kk = .int .i64 p ∧ p ≤ n ∧ Hid (posB (ltN Item.name) l x l.length = posB (ltN Item.name) l x p) ∧ Hid (BoxIs wr w.heap.size [.string x.name, .slice ua un uc]) ∧ Below w.heap.size w wr) (fun kk _ => (intOf kk).toNat)
  case atStart => exact ⟨n, rfl, Nat.le_refl _, Lib.hid (by rw [← Hn.out]), Lib.hid (BoxIs.new w [.string x.name, .slice ua un uc] 62), by go_grown⟩
  case round =>
    obtain ⟨p, rfl, hp, HP, HBX, hbr⟩ := hrel
    have hb0 : Below w.heap.size w w := Below.refl _ _
    have hsz := (bthen hb0 hbr).size
    have OUT : Hid (p = posB (ltN Item.name) l x l.length → l.take p ++ x :: l.drop p = insB (ltN Item.name) l x) := Lib.hid (fun h => by unfold insB; rw [← h])
    obtain ⟨ps, hps, hrd, hpp⟩ := nest_reads (nest_take Hc.out p)
    obtain ⟨qs, hqs, hqd, hqp⟩ := nest_reads (nest_drop Hc.out p)
    have hlt : (l.take p).length = p := by rw [List.length_take, ← Hn.out]; omega
    have hld : (l.drop p).length = n - p := by rw [List.length_drop, ← Hn.out]
    have HPl : Hid (ps.length = p) := Lib.hid (by rw [← hlt, ← hps]; simp)
    have HQl : Hid (qs.length = n - p) := Lib.hid (by rw [← hld, ← hqs]; simp)
    rw [hlt] at hrd
    rw [hld] at hqd
    have HRd : Hid (∀ W, Below w.heap.size w W → Reads W W.heap.size 2 a p (ps.flatMap fun p => itemS.enc p.1 p.2)) := Lib.hid (fun W h => (hrd.below h).more h.size)
    have HQd : Hid (∀ W, Below w.heap.size w W → Reads W W.heap.size 2 (a.map fun x => x.add (p * 2)) (n - p) (qs.flatMap fun p => itemS.enc p.1 p.2)) := Lib.hid (fun W h => (hqd.below h).more h.size)
    have HPp := Lib.hid hpp; have HQp := Lib.hid hqp; have Hps := Lib.hid hps; have Hqs := Lib.hid hqs
    clear hps hrd hpp hqs hqd hqp hlt hld
    by_cases hp0 : p = 0
    · subst hp0
      have HE : Hid (l.take 0 ++ x :: l.drop 0 = insB (ltN Item.name) l x) := Lib.hid (OUT.out (by rw [HP.out]; rfl))
      clear OUT HP
      have hx0 := HBX.out.2.1 0
      go_wp2
      go_quiet (fail)
      clear hx0
      have hbr := below_drewN hbr nq
      have HBX : Hid (BoxIs (wr.drewN nq) w.heap.size [.string x.name, .slice ua un uc]) := Lib.hid HBX.out
      have hsz := (bthen hb0 hbr).size
      generalize wr.drewN nq = wr at *
      go_wp2_with (at_builtin; refine wpList_app_items rfl _ _ rfl wr.heap.size _ 0 [] rfl (World.ownsRow_lit wr #[] 0 (Nat.le_refl _) (by decide) rfl) _ 0 _ _ rfl (HRd.out _ ((bthen hb0 hbr).alloc hsz _)) (items_one ps fun q hq => (HPp.out q hq).1) (by omega) (by simp) ?_)
      intro a4 n4 c4 w4 hn4 ho4 hg4 _
      have hb4 : Below wr.heap.size wr w4 := ((Below.refl _ _).alloc (Nat.le_refl _) _).grown hg4 (by simp) (fun g hg => by simp [Value.ownBlock] at hg; omega)
      have HO4 : Hid (w4.ownsRow wr.heap.size 62 2 (.slice a4 n4 c4) 0 (ps.flatMap fun q => itemS.enc q.1 q.2)) := Lib.hid (by simpa using ho4)
      clear ho4 hg4 hn4
      have hs4 := hb4.size
      have hx0 := (HBX.out.below hb4).2.1 0
      have hx1 := (HBX.out.below hb4).2.1 1
      go_wp2_with (at_builtin; refine wpList_app_items rfl _ _ rfl wr.heap.size _ _ _ rfl (HO4.out.alloc _) _ 1 1 [.string x.name, .slice ua un uc] rfl (item_new _ _ _ _) (by intro y hy; simp at hy; rcases hy with rfl | rfl <;> rfl) (by omega) (by simp; omega) ?_)
      intro a5 n5 c5 w5 hn5 ho5 hg5 _
      have hb5 : Below wr.heap.size wr w5 := (hb4.alloc (by omega) _).grown hg5 (by simp; omega) (fun g hg => (World.ownsRow.lt HO4.out g hg).1)
      have HO5 := Lib.hid ho5
      clear ho5 hg5 hn5 hx0 hx1
      go_wp2_with (at_builtin; refine wpList_app_items rfl _ _ rfl wr.heap.size _ _ _ rfl HO5.out _ n _ _ rfl (by have h := HQd.out _ (bthen (bthen hb0 hbr) hb5); rw [Nat.zero_mul, map_add_zero, Nat.sub_zero] at h; exact h) (items_one qs fun q hq => (HQp.out q hq).1) (by omega) hb5.size ?_)
      intro a6 n6 c6 w6 hn6 ho6 hg6 _
      have hb6 : Below wr.heap.size wr w6 := hb5.grown hg6 hb5.size (fun g hg => (World.ownsRow.lt HO5.out g hg).1)
      have hbw6 := bthen (bthen hb0 hbr) hb6
      have HAT : Hid (ItemsAt w6 (.slice a6 n6 c6) (insB (ltN Item.name) l x)) := Lib.hid (by
        have h := nest_at_row (S := itemS) (T := 62) (base := wr.heap.size) (v := .slice a6 n6 c6) (ps := ps ++ [(.slice ua un uc, x)] ++ qs) (w := w6) (by
          rw [List.flatMap_append, List.flatMap_append, List.length_append, List.length_append, HPl.out, HQl.out]
          have h0 := ho6
          simpa [itemS] using h0) (fun q hq => by
          rcases List.mem_append.1 hq with h | h
          · rcases List.mem_append.1 h with h | h
            · exact ⟨(HPp.out q h).1, (HPp.out q h).2.1.below hbw6, (HPp.out q h).2.2⟩
            · simp at h; subst h
              exact ⟨⟨_, _, _, rfl⟩, HU.out.below hbw6, HS.out⟩
          · exact ⟨(HQp.out q h).1, (HQp.out q h).2.1.below hbw6, (HQp.out q h).2.2⟩)
        rw [List.map_append, List.map_append, Hps.out, Hqs.out] at h
        have e : l.take 0 ++ [x] ++ l.drop 0 = insB (ltN Item.name) l x := by rw [← HE.out]; simp
        rw [← e]
        exact h)
      clear ho6 hg6 HO5 HO4 hn6
      go_wp2
      go_ret
      exact ⟨_, _, _, rfl, HAT.out, hbw6⟩
    · obtain ⟨b5, o5, pa5, pn5, pc5, rfl, hb5', -, -, f0, -⟩ := item_cells (Hc.out.below (bthen hb0 hbr)) (p - 1) (by rw [← Hn.out]; omega)
      have hps : posB (ltN Item.name) l x p = if lessB x.name (nth l (p - 1)).name = true then posB (ltN Item.name) l x (p - 1) else p := by
        obtain ⟨q, rfl⟩ : ∃ q, p = q + 1 := ⟨p - 1, by omega⟩
        rfl
      have hg := lessB_leq (nth l (p - 1)).name x.name
      have hx0 := HBX.out.2.1 0
      have hw1 : IntKind.i64.wrap ((p : Int) - 1) = (p : Int) - 1 := IntWalk.i64_in _ (by omega)
      have hi0 : (0 : Int) ≤ (p : Int) - 1 := by omega
      have hi1 : (p : Int) - 1 < (n : Int) := by omega
      have hi2 : ((p : Int) - 1).toNat = p - 1 := by omega
      have hd : decide (0 < p) = true := decide_eq_true (by omega)
      generalize (nth l (p - 1)).name = y at *
      cases hxy : lessB x.name y
      · have HP2 : Hid (posB (ltN Item.name) l x l.length = p) := Lib.hid (by rw [HP.out, hps, if_neg (by rw [hxy]; decide)])
        rw [hxy] at hg
        have HE : Hid (l.take p ++ x :: l.drop p = insB (ltN Item.name) l x) := Lib.hid (OUT.out HP2.out.symm)
        clear hps HP hxy OUT HP2
        by_cases hcp : cap = p
        · obtain rfl : n = p := by omega
          have hcp2 := hcp.symm
          subst hcp2
          go_wp2
          go_quiet (fail)
          clear hx0 f0 hw1 hi0 hi1 hi2 hd hg
          have hbr := below_drewN hbr nq
          have HBX : Hid (BoxIs (wr.drewN nq) w.heap.size [.string x.name, .slice ua un uc]) := Lib.hid HBX.out
          have hsz := (bthen hb0 hbr).size
          generalize wr.drewN nq = wr at *
          go_wp2_with (at_builtin; refine wpList_app_items rfl _ _ rfl wr.heap.size _ 0 [] rfl (World.ownsRow_lit wr #[] 0 (Nat.le_refl _) (by decide) rfl) _ n _ _ rfl (HRd.out _ ((bthen hb0 hbr).alloc hsz _)) (items_one ps fun q hq => (HPp.out q hq).1) (by omega) (by simp) ?_)
          intro a4 n4 c4 w4 hn4 ho4 hg4 _
          have hb4 : Below wr.heap.size wr w4 := ((Below.refl _ _).alloc (Nat.le_refl _) _).grown hg4 (by simp) (fun g hg => by simp [Value.ownBlock] at hg; omega)
          have HO4 : Hid (w4.ownsRow wr.heap.size 62 2 (.slice a4 n4 c4) n (ps.flatMap fun q => itemS.enc q.1 q.2)) := Lib.hid (by simpa using ho4)
          clear ho4 hg4 hn4
          have hs4 := hb4.size
          have hx0 := (HBX.out.below hb4).2.1 0
          have hx1 := (HBX.out.below hb4).2.1 1
          go_wp2_with (at_builtin; refine wpList_app_items rfl _ _ rfl wr.heap.size _ _ _ rfl (HO4.out.alloc _) _ 1 1 [.string x.name, .slice ua un uc] rfl (item_new _ _ _ _) (by intro y hy; simp at hy; rcases hy with rfl | rfl <;> rfl) (by omega) (by simp; omega) ?_)
          intro a5 n5 c5 w5 hn5 ho5 hg5 _
          have hb5 : Below wr.heap.size wr w5 := (hb4.alloc (by omega) _).grown hg5 (by simp; omega) (fun g hg => (World.ownsRow.lt HO4.out g hg).1)
          have HO5 := Lib.hid ho5
          clear ho5 hg5 hn5 hx0 hx1
          go_wp2_with (at_builtin; refine wpList_app_items rfl _ _ rfl wr.heap.size _ _ _ rfl HO5.out _ 0 _ _ rfl (by have := HQl.out; rw [List.eq_nil_of_length_eq_zero (show qs.length = 0 by omega)]; exact reads_none' _ _) (items_one qs fun q hq => (HQp.out q hq).1) (by omega) hb5.size ?_)
          intro a6 n6 c6 w6 hn6 ho6 hg6 _
          have hb6 : Below wr.heap.size wr w6 := hb5.grown hg6 hb5.size (fun g hg => (World.ownsRow.lt HO5.out g hg).1)
          have hbw6 := bthen (bthen hb0 hbr) hb6
          have HAT : Hid (ItemsAt w6 (.slice a6 n6 c6) (insB (ltN Item.name) l x)) := Lib.hid (by
            have h := nest_at_row (S := itemS) (T := 62) (base := wr.heap.size) (v := .slice a6 n6 c6) (ps := ps ++ [(.slice ua un uc, x)] ++ qs) (w := w6) (by
              rw [List.flatMap_append, List.flatMap_append, List.length_append, List.length_append, HPl.out, HQl.out]
              have h0 := ho6
              simpa [itemS] using h0) (fun q hq => by
              rcases List.mem_append.1 hq with h | h
              · rcases List.mem_append.1 h with h | h
                · exact ⟨(HPp.out q h).1, (HPp.out q h).2.1.below hbw6, (HPp.out q h).2.2⟩
                · simp at h; subst h
                  exact ⟨⟨_, _, _, rfl⟩, HU.out.below hbw6, HS.out⟩
              · exact ⟨(HQp.out q h).1, (HQp.out q h).2.1.below hbw6, (HQp.out q h).2.2⟩)
            rw [List.map_append, List.map_append, Hps.out, Hqs.out] at h
            have e : l.take n ++ [x] ++ l.drop n = insB (ltN Item.name) l x := by rw [← HE.out]; simp
            rw [← e]
            exact h)
          clear ho6 hg6 HO5 HO4 hn6
          go_wp2
          go_ret
          exact ⟨_, _, _, rfl, HAT.out, hbw6⟩
        · go_wp2
          go_quiet (fail)
          clear hx0 f0 hw1 hi0 hi1 hi2 hd hg
          have hbr := below_drewN hbr nq
          have HBX : Hid (BoxIs (wr.drewN nq) w.heap.size [.string x.name, .slice ua un uc]) := Lib.hid HBX.out
          have hsz := (bthen hb0 hbr).size
          generalize wr.drewN nq = wr at *
          go_wp2_with (at_builtin; refine wpList_app_items rfl _ _ rfl wr.heap.size _ 0 [] rfl (World.ownsRow_lit wr #[] 0 (Nat.le_refl _) (by decide) rfl) _ p _ _ rfl (HRd.out _ ((bthen hb0 hbr).alloc hsz _)) (items_one ps fun q hq => (HPp.out q hq).1) (by omega) (by simp) ?_)
          intro a4 n4 c4 w4 hn4 ho4 hg4 _
          have hb4 : Below wr.heap.size wr w4 := ((Below.refl _ _).alloc (Nat.le_refl _) _).grown hg4 (by simp) (fun g hg => by simp [Value.ownBlock] at hg; omega)
          have HO4 : Hid (w4.ownsRow wr.heap.size 62 2 (.slice a4 n4 c4) p (ps.flatMap fun q => itemS.enc q.1 q.2)) := Lib.hid (by simpa using ho4)
          clear ho4 hg4 hn4
          have hs4 := hb4.size
          have hx0 := (HBX.out.below hb4).2.1 0
          have hx1 := (HBX.out.below hb4).2.1 1
          go_wp2_with (at_builtin; refine wpList_app_items rfl _ _ rfl wr.heap.size _ _ _ rfl (HO4.out.alloc _) _ 1 1 [.string x.name, .slice ua un uc] rfl (item_new _ _ _ _) (by intro y hy; simp at hy; rcases hy with rfl | rfl <;> rfl) (by omega) (by simp; omega) ?_)
          intro a5 n5 c5 w5 hn5 ho5 hg5 _
          have hb5 : Below wr.heap.size wr w5 := (hb4.alloc (by omega) _).grown hg5 (by simp; omega) (fun g hg => (World.ownsRow.lt HO4.out g hg).1)
          have HO5 := Lib.hid ho5
          clear ho5 hg5 hn5 hx0 hx1
          go_wp2_with (at_builtin; refine wpList_app_items rfl _ _ rfl wr.heap.size _ _ _ rfl HO5.out _ (n - p) _ _ rfl (by have h := HQd.out _ (bthen (bthen hb0 hbr) hb5); rw [Option.map_some, iadd_none] at h; exact h) (items_one qs fun q hq => (HQp.out q hq).1) (by omega) hb5.size ?_)
          intro a6 n6 c6 w6 hn6 ho6 hg6 _
          have hb6 : Below wr.heap.size wr w6 := hb5.grown hg6 hb5.size (fun g hg => (World.ownsRow.lt HO5.out g hg).1)
          have hbw6 := bthen (bthen hb0 hbr) hb6
          have HAT : Hid (ItemsAt w6 (.slice a6 n6 c6) (insB (ltN Item.name) l x)) := Lib.hid (by
            have h := nest_at_row (S := itemS) (T := 62) (base := wr.heap.size) (v := .slice a6 n6 c6) (ps := ps ++ [(.slice ua un uc, x)] ++ qs) (w := w6) (by
              rw [List.flatMap_append, List.flatMap_append, List.length_append, List.length_append, HPl.out, HQl.out]
              have h0 := ho6
              simpa [itemS] using h0) (fun q hq => by
              rcases List.mem_append.1 hq with h | h
              · rcases List.mem_append.1 h with h | h
                · exact ⟨(HPp.out q h).1, (HPp.out q h).2.1.below hbw6, (HPp.out q h).2.2⟩
                · simp at h; subst h
                  exact ⟨⟨_, _, _, rfl⟩, HU.out.below hbw6, HS.out⟩
              · exact ⟨(HQp.out q h).1, (HQp.out q h).2.1.below hbw6, (HQp.out q h).2.2⟩)
            rw [List.map_append, List.map_append, Hps.out, Hqs.out] at h
            have e : l.take p ++ [x] ++ l.drop p = insB (ltN Item.name) l x := by rw [← HE.out]; simp
            rw [← e]
            exact h)
          clear ho6 hg6 HO5 HO4 hn6
          go_wp2
          go_ret
          exact ⟨_, _, _, rfl, HAT.out, hbw6⟩
      · have HP2 : Hid (posB (ltN Item.name) l x l.length = posB (ltN Item.name) l x (p - 1)) := Lib.hid (by rw [HP.out, hps, if_pos hxy])
        rw [hxy] at hg
        clear hps HP hxy OUT
        go_wp2
        go_quiet (fail)
        clear hx0 f0 hw1 hi0 hi1 hi2 hd hg
        have hbr := below_drewN hbr nq
        have HBX : Hid (BoxIs (wr.drewN nq) w.heap.size [.string x.name, .slice ua un uc]) := Lib.hid HBX.out
        have hsz := (bthen hb0 hbr).size
        generalize wr.drewN nq = wr at *
        go_wp2
        exact ⟨⟨p - 1, by go_num, by omega, HP2, HBX, hbr⟩, by simp [intOf]; omega⟩
end Go.Proofs.YtcgbdhbdlnimhaaGreat

/- ItemAdd: a library with one item more, by both packages. -/
namespace Go.Proofs.YtcgbdhbdlnimhaaGreat
open Go.ChangeShapes Go.WideShapes Go.ChangeAt Go.RowKit

/-- Names that are put in order: one list alone is in order. -/
theorem names_one {β : Type} [Inhabited β] (nm : β → ByteArray) {l l' : List β} (hp : l'.Perm l) (ha : Asc (ltN nm) l') (hd : ∀ a ∈ l, ∀ b ∈ l, nm a = nm b → a = b) {m : List β} (hm : m.Perm l) (hma : Asc (ltN nm) m) : l' = m := by
  refine asc_unique ha hma (hp.trans hm.symm) ?_
  intro a ha' b hb' h1 h2
  exact hd a (hp.mem_iff.1 ha') b (hp.mem_iff.1 hb') (lessB_anti h1 h2)
theorem pw_dist {β : Type} [Inhabited β] (nm : β → ByteArray) {l : List β} (h : l.Pairwise (fun a b => lessB (nm a) (nm b) = true)) : ∀ a ∈ l, ∀ b ∈ l, nm a = nm b → a = b := by
  intro a ha b hb hab
  have hir : ∀ s, lessB s s = false := fun s => (swo_ltN (id : ByteArray → ByteArray)).irrefl s
  obtain ⟨i, hi, rfl⟩ := List.getElem_of_mem ha
  obtain ⟨j, hj, rfl⟩ := List.getElem_of_mem hb
  rcases Nat.lt_trichotomy i j with h1 | h1 | h1
  · have := (List.pairwise_iff_getElem.1 h) i j hi hj h1
    rw [hab, hir] at this; exact absurd this (by decide)
  · subst h1; rfl
  · have := (List.pairwise_iff_getElem.1 h) j i hj hi h1
    rw [hab, hir] at this; exact absurd this (by decide)
theorem pw_asc {β : Type} (nm : β → ByteArray) {l : List β} (h : l.Pairwise (fun a b => lessB (nm a) (nm b) = true)) : Asc (ltN nm) l := List.Pairwise.imp (fun h => lessB_asym' h) h
theorem dist_snoc {β : Type} [Inhabited β] (nm : β → ByteArray) {l : List β} {x : β} (hd : ∀ a ∈ l, ∀ b ∈ l, nm a = nm b → a = b) (hx : ∀ a ∈ l, nm a ≠ nm x) : ∀ a ∈ l ++ [x], ∀ b ∈ l ++ [x], nm a = nm b → a = b := by
  intro a ha b hb hab
  simp only [List.mem_append, List.mem_singleton] at ha hb
  rcases ha with ha | rfl <;> rcases hb with hb | rfl
  · exact hd a ha b hb hab
  · exact absurd hab (hx a ha)
  · exact absurd hab.symm (hx b hb)
  · rfl
theorem own_block {w w' : World} {base : Nat} {e : TypeId} {size : Nat} {v : Value} {n : Nat} {xs : List Value} (h : w.ownsRow base e size v n xs) (hk : ∀ g, v.ownBlock = some g → w'.heap[g]? = w.heap[g]?) : w'.ownsRow base e size v n xs := by
  refine ⟨h.1, ?_⟩
  rcases h.2 with h2 | ⟨g, cap, cur, hv, hg, hh, r⟩
  · exact .inl h2
  · exact .inr ⟨g, cap, cur, hv, hg, by rw [hk g (by rw [hv]; rfl)]; exact hh, r⟩
abbrev SlItem := (Option Addr × Nat × Nat) × Item
def slF (q : SlItem) : Value × Item := (.slice q.1.1 q.1.2.1 q.1.2.2, q.2)
theorem slices_map : ∀ (ps : List (Value × Item)), (∀ p ∈ ps, ∃ pa pn pc, p.1 = .slice pa pn pc) → ∃ qs : List SlItem, qs.map slF = ps
  | [], _ => ⟨[], rfl⟩
  | p :: ps, h => by
    obtain ⟨pa, pn, pc, e⟩ := h p (List.mem_cons_self ..)
    obtain ⟨qs, hq⟩ := slices_map ps (fun q hq => h q (List.mem_cons_of_mem _ hq))
    refine ⟨((pa, pn, pc), p.2) :: qs, ?_⟩
    rw [List.map_cons, hq]
    congr 1
    obtain ⟨v, x⟩ := p
    dsimp only at e
    subst e; rfl
theorem slF_flat (qs : List SlItem) : (qs.map slF).flatMap (fun p => itemS.enc p.1 p.2) = qs.flatMap (fun q => itemS.enc (slF q).1 (slF q).2) := by
  rw [List.flatMap_map]
set_option maxHeartbeats 1000000 in
theorem itemLess : LessN 93 2 := by
  intro blk c B size W G hs hc i j hi hj
  have ci := hc i hi
  have cj := hc j hj
  clear hc
  go_enter Tryz.func93, Tryz.ntmps93
  go_wp2
  go_quiet (fail)
  go_wp2
  go_ret
  exact ⟨rfl, nq, rfl⟩
set_option maxHeartbeats 1000000 in
theorem sortItems_c (a : Option Addr) (n c : Nat) (l : List Item) (w : World) (base : Nat) (hO : OwnItems w base (.slice a n c) l) (hl : l.length ≤ 1000000) (hb : base ≤ w.heap.size) :
    Calls Tryz.prog 52 #[.slice a n c] w (fun e w' => e = .returned (.slice a n c) ∧ ∃ l' : List Item, l'.Perm l ∧ Asc (ltN Item.name) l' ∧ OwnItems w' base (.slice a n c) l' ∧ Below base w w') := by
  obtain ⟨ps, hps, hrow, hpp, hpd⟩ := hO
  obtain ⟨qs, rfl⟩ := slices_map ps (fun p hp => (hpp p hp).1)
  have hlen : l.length = qs.length := by rw [← hps]; simp
  have hn : n = l.length := by
    obtain ⟨_, _, e⟩ := slice_of_own hrow
    injection e
  have hB : BoxIs (w.alloc (.cells #[.slice a n c] 24)) w.heap.size [.slice a n c] := BoxIs.new w [.slice a n c] 24
  rw [← hn] at hrow
  have HS := Lib.hid (sortItems_k (fun q : SlItem => itemS.enc (slF q).1 (slF q).2) (fun _ => rfl) (fun p v hv => by
      simp only [itemS, List.mem_cons, List.not_mem_nil, or_false] at hv
      rcases hv with rfl | rfl
      · rfl
      · rfl) (fun p => p.2.name) (fun _ => rfl) 93 (enters_of Tryz.func93 (by kernel_rfl) rfl) itemLess a n c w.heap.size base qs _ (by rw [slF_flat] at hrow; exact hrow.alloc _) (by rw [hn, hlen]) hB (fun x hx => by
    subst hx; have := (World.ownsRow.lt hrow x.block rfl).2; omega) (by omega))
  have HR := Lib.hid hrow; have HPp := Lib.hid hpp; have HPd := Lib.hid hpd; have Hps := Lib.hid hps; have Hn := Lib.hid hn
  clear hrow hpp hpd hps hn hB hlen hl
  go_enter Tryz.func52, Tryz.ntmps52
  go_wp2_with fail
  refine HS.out.mono ?_
  rintro e w2 ⟨rfl, qs', p1, p2, o2, hB2, hb2, -, hk2⟩
  have hx0 := hB2.2.1 0
  have HF : Hid (∃ l' : List Item, l'.Perm l ∧ Asc (ltN Item.name) l' ∧ OwnItems w2 base (.slice a n c) l' ∧ Below base w w2) := Lib.hid (by
    refine ⟨(qs'.map slF).map (·.2), ?_, ?_, ⟨qs'.map slF, rfl, ?_, fun p hp => ?_, ?_⟩, ?_⟩
    · rw [← Hps.out]; exact (p1.map _).map _
    · unfold Asc at p2 ⊢
      rw [List.pairwise_map, List.pairwise_map]; exact p2
    · rw [List.length_map, List.length_map, p1.length_eq]
      have : qs.length = n := by rw [Hn.out, ← Hps.out]; simp
      rw [this, slF_flat]; exact o2
    · obtain ⟨q1, q2, q3, q4⟩ := HPp.out p ((p1.map slF).mem_iff.1 hp)
      refine ⟨q1, own_block (World.ownsRow.alloc q2 (.cells #[.slice a n c] 24)) (fun g hg => hk2 g ?_ ?_), q3, q4⟩
      · have := (World.ownsRow.lt q2 g hg).2; simp; omega
      · intro x hx; subst hx
        intro e; exact q4 g hg (by subst e; rfl)
    · refine (List.Perm.pairwise_iff ?_ (p1.map slF)).2 HPd.out
      intro x y h g hy hx
      exact h g hx hy
    · exact (Below.refl _ _ |>.alloc hb _).trans (hb2 _ (Nat.le_refl _) (by simp; omega)))
  clear hk2 hb2 hB2 o2 p2 p1 HS
  go_wp2
  go_ret
  exact ⟨rfl, HF.out⟩
end Go.Proofs.YtcgbdhbdlnimhaaGreat
