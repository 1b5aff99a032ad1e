import Derived.Test.YtclffohjpbmnbaaDoorMg44
import Derived.Test.YtclffohjpbmnbaaDoorMg15
import Derived.Test.YtclffohjpbmnbaaDoorMg45
import Derived.Deep.RegionHeld3
/- DrawC: plans that are drawn. -/
namespace Go.Proofs.YtclffohjpbmnbaaDoor
open Go.ChangeShapes Go.WideShapes Go.ChangeAt Go.RowKit

theorem cardNewD (w : World) (c : Card) (hs : c.name.size ≤ 9223372036854775807) (t : TypeId) : Reads (w.alloc (.cells #[.string c.name, .int .i64 c.level, .int .i64 c.due] t)) (w.alloc (.cells #[.string c.name, .int .i64 c.level, .int .i64 c.due] t)).heap.size 3 (some ⟨w.heap.size, 0, none⟩) 1 ([c].flatMap cardCells) := by
  have h : CardsC (w.alloc (.cells #[.string c.name, .int .i64 c.level, .int .i64 c.due] t)) (some ⟨w.heap.size, 0, none⟩) [c] := by
    intro i hi
    obtain rfl : i = 0 := by simpa using hi
    refine ⟨w.heap.size, 0, rfl, by simp, by simpa [nth] using hs, ?_, ?_, ?_⟩
    · rw [World.cell?_alloc_at _ _ _ _ rfl]; rfl
    · rw [World.cell?_alloc_at _ _ _ _ rfl]; rfl
    · rw [World.cell?_alloc_at _ _ _ _ rfl]; rfl
  exact cards_reads h
theorem cards_drew {w w' : World} {b n base : Nat} {v : Value} {l : List Card} (h : OwnCards w base v l) (hd : Drew b n w w') (hb : b < base) : OwnCards w' base v l := ⟨own_drew h.1 hd hb, h.2⟩
theorem cardsLen {w : World} {base n c : Nat} {a : Option Addr} {l : List Card} (h : OwnCards w base (.slice a n c) l) : n = l.length := by
  obtain ⟨_, _, _, e, hn, _⟩ := OwnCards.at h
  injection e with _ e2 _
  rw [e2]; exact hn
theorem cardsHead {w : World} {base n c : Nat} {a : Option Addr} {l : List Card} (h : OwnCards w base (.slice a n c) l) (h0 : 0 < n) : ∃ g, a = some ⟨g, 0, none⟩ ∧ base ≤ g := by
  rcases h.1.2 with ⟨he, h1⟩ | ⟨g, cap, cur, he, hb, _⟩
  · injection he; omega
  · injection he with h1 h2 _
    exact ⟨g, h1, hb⟩
theorem drawDay_c (b n : Nat) (w : World) (h : SrcAt w b n) (hn : n ≤ 10000000) : Calls Tryd.prog 23 #[.pointer (some ⟨b, 0, none⟩)] w fun e w' => ∃ r : Int, e = .returned (.int .i64 r) ∧ -1 ≤ r ∧ r ≤ 100001 ∧ Drew b (n + 4) w w' := by
  have HS := Lib.hid h
  have hbl := h.lt
  clear h
  go_enter Tryd.func23, Tryd.ntmps23
  go_wp2_with fail
  refine (one_c b n 12 w HS.out (by omega) (by omega)).mono ?_
  rintro e w1 ⟨d, rfl, hd⟩
  have HD := Lib.hid hd
  have hs1 := hd.2.size
  clear hd HS
  cases d
  · go_wp2_with fail
    refine (pick_c b _ 14 _ HD.out.1 (by omega) (by omega)).mono ?_
    rintro e w2 ⟨r, rfl, hr, hd⟩
    have H := Lib.hid ((HD.out.trans hd).mono (show _ ≤ n + 4 by omega))
    have hr2 : (r : Int) ≤ 100001 := by omega
    clear hd hr HD
    go_wp2
    go_ret
    exact ⟨r, rfl, by omega, hr2, H.out⟩
  · go_wp2_with fail
    have hl4 := ints_lit (w := w1) [-1, 0, 99940, 100000, 100001] _ rfl _ rfl (by decide)
    have hbA : Below w1.heap.size w1 (w1.alloc (.cells (([-1, 0, 99940, 100000, 100001] : List Int).map (Value.int .i64)).toArray 2)) := by go_grown
    have HDA := Lib.hid (HD.out.then_below hbA)
    refine (among_c b _ _ [-1, 0, 99940, 100000, 100001] _ HDA.out.1 (by omega) hl4 (by decide) (by decide) (fun b' o m c e => by injection e with e1; injection e1 with e1; injection e1 with e1; omega)).mono ?_
    rintro e w2 ⟨r, hr, rfl, hd⟩
    have H := Lib.hid ((HDA.out.trans hd).mono (show _ ≤ n + 4 by omega))
    have hv : -1 ≤ nth ([-1, 0, 99940, 100000, 100001] : List Int) r ∧ nth ([-1, 0, 99940, 100000, 100001] : List Int) r ≤ 100001 := by
      have h5 : r = 0 ∨ r = 1 ∨ r = 2 ∨ r = 3 ∨ r = 4 := by simp at hr; omega
      rcases h5 with rfl | rfl | rfl | rfl | rfl <;> decide
    have Hv := Lib.hid hv
    clear hd HD HDA hl4 hbA hr hv
    generalize nth ([-1, 0, 99940, 100000, 100001] : List Int) r = x at *
    go_wp2
    go_ret
    exact ⟨x, rfl, Hv.out.1, Hv.out.2, H.out⟩
def cardNames : List ByteArray := [{ data := #[98, 111, 120] }, { data := #[99, 97, 115, 99, 97, 100, 101] }, { data := #[99, 104, 97, 115, 101] }, { data := #[112, 53, 51, 49] }, { data := #[115, 104, 111, 119, 101, 114] }, { data := #[116, 111, 119, 101, 114] }]
theorem names_c (w : World) : Calls Tryd.prog 59 #[] w fun e w' => e = .returned (.slice (some ⟨w.heap.size, 0, none⟩) 6 6) ∧ StrsAt w' (.slice (some ⟨w.heap.size, 0, none⟩) 6 6) cardNames ∧ Below w.heap.size w w' := by
  have H := Lib.hid (strs_lit (w := w) cardNames 6 rfl _ rfl (by decide))
  go_enter Tryd.func59, Tryd.ntmps59
  go_wp2
  go_ret
  exact ⟨rfl, H.out, by go_grown⟩
end Go.Proofs.YtclffohjpbmnbaaDoor

/- DrawC2: plans that are drawn: the plan itself. -/
namespace Go.Proofs.YtclffohjpbmnbaaDoor
open Go.ChangeShapes Go.WideShapes Go.ChangeAt Go.RowKit

theorem cellAllocD {W : World} {p : Addr} {x : Value} (h : W.cell? p = some x) (o : Obj) : (W.alloc o).cell? p = some x := by
  rw [World.cell?_alloc_some _ _ _ (by rw [h]; rfl)]; exact h
theorem cellGrownD {W W' : World} {b o : Nat} {x : Value} {row : Option Nat} (h : W.cell? ⟨b, o, none⟩ = some x) (hg : W.grownBy W' row) (hne : row ≠ some b) : W'.cell? ⟨b, o, none⟩ = some x :=
  (World.cell?_of_block (hg.block b (World.block_lt_of_cell? W _ h) (fun e => hne e.symm))).trans h
theorem cellDrewD {w w' : World} {b n c o : Nat} {u : Value} (h : w.cell? ⟨c, o, none⟩ = some u) (hd : Drew b n w w') (hne : c ≠ b) : w'.cell? ⟨c, o, none⟩ = some u :=
  (World.cell?_of_block (a := ⟨c, o, none⟩) (hd.2.block c (World.block_lt_of_cell? w _ h) (by omega))).trans h
/-- A plan, drawn. -/
def DrawsC (b n : Nat) (w : World) (e : Ending) (w' : World) : Prop := ∃ (a : Option Addr) (m c : Nat) (l : List Card), e = .returned (.slice a m c) ∧ l.length ≤ 45 ∧ OwnCards w' w.heap.size (.slice a m c) l ∧ Drew b n w w'
/-- A card whose text is short. -/
def SmC (x : Card) : Prop := x.name.size ≤ 100 ∧ (-1 ≤ x.level ∧ x.level ≤ 7) ∧ (-1 ≤ x.due ∧ x.due ≤ 100001)
def DrawsCS (b n : Nat) (w : World) (e : Ending) (w' : World) : Prop := ∃ (a : Option Addr) (m c : Nat) (l : List Card), e = .returned (.slice a m c) ∧ l.length ≤ 45 ∧ OwnCards w' w.heap.size (.slice a m c) l ∧ Drew b n w w' ∧ ∀ x ∈ l, SmC x
theorem DrawsCS.weak {b n : Nat} {w w' : World} {e : Ending} (h : DrawsCS b n w e w') : DrawsC b n w e w' := by
  obtain ⟨a, m, c, l, h1, h2, h3, h4, -⟩ := h
  exact ⟨a, m, c, l, h1, h2, h3, h4⟩
theorem smC_snoc {l : List Card} {x : Card} (h : ∀ y ∈ l, SmC y) (hx : SmC x) : ∀ y ∈ l ++ [x], SmC y := by
  intro y hy
  rcases List.mem_append.1 hy with hy | hy
  · exact h y hy
  · rw [List.mem_singleton.1 hy]; exact hx
set_option maxRecDepth 100000 in
set_option maxHeartbeats 4000000 in
theorem l25DrawS_c (b n : Nat) (w : World) (h : SrcAt w b n) (hn : n ≤ 1000000) : Calls Tryd.prog 34 #[.pointer (some ⟨b, 0, none⟩)] w (DrawsCS b (n + 100) w) := by
  have HS := Lib.hid h
  have hbl := h.lt
  clear h
  go_enter Tryd.func34, Tryd.ntmps34
  go_wp2_with fail
  have HO0 := Lib.hid (own_cards_empty w)
  have hbA : Below w.heap.size w (w.alloc (.cells #[] 43)) := by go_grown
  have hsA : (w.alloc (.cells #[] 43)).heap.size = w.heap.size + 1 := by simp
  refine (names_c _).mono ?_
  rintro e w1 ⟨rfl, hN, hb1⟩
  have HO1 := Lib.hid (HO0.out.below hb1)
  have HD1 := Lib.hid ((Drew.of_below HS.out hbA).then_below hb1)
  have HC1 : Hid (∀ k, k < 6 → w1.cell? ⟨w.heap.size + 1, k, none⟩ = some (.string (nth cardNames k)) ∧ (nth cardNames k).size ≤ 100) := Lib.hid (by
    obtain ⟨_, _, _, he, hn6, -, -, hc⟩ := hN
    injection he with he1 he2 he3
    intro k hk
    obtain ⟨b', o', hb', hs', c0⟩ := hc k hk
    rw [← he1] at hb'
    injection hb' with hb'
    injection hb' with h1 h2
    rw [hsA] at h1
    subst h1 h2
    rw [Nat.zero_add] at c0
    refine ⟨c0, ?_⟩
    have : ∀ x ∈ cardNames, x.size ≤ 100 := by decide
    exact this _ (mem_nth hk))
  have hs1 := hb1.size
  rw [hsA] at hs1
  clear HO0 hN hb1 hbA
  rw [hsA]
  have hNB : w.heap.size + 1 ≠ b := by omega
  generalize hNBe : w.heap.size + 1 = NB at *
  have hPN : w.heap.size < NB := by omega
  clear hsA hNBe
  go_wp2
  go_loopw [3, 5] (fun o i wr => ∃ (k : Nat) (a' : Option Addr) (n' c' : Nat) (l' : List Card), i = .int .i64 k ∧ k ≤ 6 ∧ o = .slice a' n' c' ∧ l'.length ≤ k ∧ Hid (OwnCards wr w.heap.size (.slice a' n' c') l') ∧ Hid (Drew b (n + 10 * k) w wr) ∧ Hid (∀ k, k < 6 → wr.cell? ⟨NB, k, none⟩ = some (.string (nth cardNames k)) ∧ (nth cardNames k).size ≤ 100) ∧ Hid ((Value.slice a' n' c').ownBlock ≠ some NB) ∧ Hid (∀ x ∈ l', SmC x)) (fun _ i _ => 6 - (intOf i).toNat)
  case atStart => exact ⟨0, _, _, _, [], rfl, Nat.zero_le _, rfl, Nat.zero_le _, HO1, Lib.hid (HD1.out.mono (by omega)), HC1, Lib.hid (fun e => by injection e with e; simp at e; omega), Lib.hid (fun x hx => absurd hx List.not_mem_nil)⟩
  case round =>
    clear HO1 HD1 HC1
    obtain ⟨k, a', n', c', l', rfl, hk, rfl, hl', HO, HD, HC, HF, HM⟩ := hrel
    have Hln := Lib.hid (cardsLen HO.out)
    by_cases hlt : k < 6
    · go_wp2_with fail
      refine (one_c b _ 3 _ HD.out.1 (by omega) (by omega)).mono ?_
      rintro e w2 ⟨d, rfl, hd⟩
      have HO2 := Lib.hid (cards_drew HO.out hd hbl)
      have HD2 := Lib.hid (HD.out.trans hd)
      have HC2 : Hid (∀ k, k < 6 → w2.cell? ⟨NB, k, none⟩ = some (.string (nth cardNames k)) ∧ (nth cardNames k).size ≤ 100) := Lib.hid (fun k hk => ⟨cellDrewD (HC.out k hk).1 hd hNB, (HC.out k hk).2⟩)
      clear hd HO HD HC
      cases d
      · go_wp2_with fail
        refine (pick_c b _ 7 _ HD2.out.1 (by omega) (by omega)).mono ?_
        rintro e w3 ⟨lv, rfl, hlv, hd⟩
        have Hlv : Hid ((lv : Int) ≤ 6) := Lib.hid (by omega)
        clear hlv
        have HO3 := Lib.hid (cards_drew HO2.out hd hbl)
        have HD3 := Lib.hid (HD2.out.trans hd)
        have HC3 : Hid (∀ k, k < 6 → w3.cell? ⟨NB, k, none⟩ = some (.string (nth cardNames k)) ∧ (nth cardNames k).size ≤ 100) := Lib.hid (fun k hk => ⟨cellDrewD (HC2.out k hk).1 hd hNB, (HC2.out k hk).2⟩)
        clear hd HO2 HD2 HC2
        obtain ⟨c0, hsz⟩ := HC3.out k hlt
        have HC0 := Lib.hid c0
        generalize nth cardNames k = nm at *
        clear c0
        have hs3 := HD3.out.2.size
        go_wp2
        refine wp_region_held_drew (S := fun w' => w'.cell? ⟨NB, k, none⟩ = some (.string nm)) (by kernel_rfl) (by exact (cell_then (World.block_lt_of_cell? _ _ HC0.out) HC0.out (Below.refl _ _).drew)) (fun hHeld => ?_)
        refine wpAnyH_take (i := 0) (oi := ⟨_, _, _, _, _, _⟩) (v := ?_) rfl (by kernel_rfl) (by kernel_rfl) (by kernel_rfl) (fun _ _ _ h => h) (Or.inl ⟨by rfl, ?_⟩) (by assumption) ?_; rotate_left; (focus (intro w hSw; (try dsimp only at hSw); go_simp; try with_reducible rfl)); (try simp only [Act.put, List.setIfInBounds_toArray, List.set_cons_zero, List.set_cons_succ])
        refine wpAnyH_take (i := 1) (oi := ⟨_, _, _, _, _, _⟩) (v := ?_) rfl (by kernel_rfl) (by kernel_rfl) (by kernel_rfl) (fun _ _ _ h => h) (Or.inl ⟨by rfl, ?_⟩) (by assumption) ?_; rotate_left; (focus (intro w hSw; (try dsimp only at hSw); go_simp; try with_reducible rfl)); (try simp only [Act.put, List.setIfInBounds_toArray, List.set_cons_zero, List.set_cons_succ])
        refine wpAnyH_take (i := 2) (oi := ⟨_, _, _, _, _, _⟩) (v := ?_) rfl (by kernel_rfl) (by kernel_rfl) (by kernel_rfl) (fun _ _ _ h => h) (Or.inl ⟨by rfl, ?_⟩) (by assumption) ?_; rotate_left; (focus (intro w hSw; (try dsimp only at hSw); go_simp; try with_reducible rfl)); (try simp only [Act.put, List.setIfInBounds_toArray, List.set_cons_zero, List.set_cons_succ])
        refine wpAnyH_take (i := 3) (oi := ⟨_, _, _, _, _, _⟩) (v := ?_) rfl (by kernel_rfl) (by kernel_rfl) (by kernel_rfl) (fun _ _ _ h => h) (Or.inl ⟨by rfl, ?_⟩) (by assumption) ?_; rotate_left; (focus (intro w hSw; (try dsimp only at hSw); go_simp; try with_reducible rfl)); (try simp only [Act.put, List.setIfInBounds_toArray, List.set_cons_zero, List.set_cons_succ])
        refine wpAnyH_take (i := 4) (oi := ⟨_, _, _, _, _, _⟩) (v := ?_) rfl (by kernel_rfl) (by kernel_rfl) (by kernel_rfl) (fun _ _ _ h => h) (Or.inl ⟨by rfl, ?_⟩) (by assumption) ?_; rotate_left; (focus (intro w hSw; (try dsimp only at hSw); have t0 := hSw; go_simp; try with_reducible rfl)); (try simp only [Act.put, List.setIfInBounds_toArray, List.set_cons_zero, List.set_cons_succ])
        refine wpAnyH_take (i := 5) (oi := ⟨_, _, _, _, _, _⟩) (v := ?_) rfl (by kernel_rfl) (by kernel_rfl) (by kernel_rfl) (fun _ _ _ h => h) (Or.inl ⟨by rfl, ?_⟩) (by assumption) ?_; rotate_left; (focus (intro w hSw; (try dsimp only at hSw); go_simp; try with_reducible rfl)); (try simp only [Act.put, List.setIfInBounds_toArray, List.set_cons_zero, List.set_cons_succ])
        refine wpAnyH_take (i := 6) (oi := ⟨_, _, _, _, _, _⟩) (v := ?_) rfl (by kernel_rfl) (by kernel_rfl) (by kernel_rfl) (fun _ _ _ h => h) (Or.inl ⟨by rfl, ?_⟩) (by assumption) ?_; rotate_left; (focus (intro w hSw; (try dsimp only at hSw); go_simp; try with_reducible rfl)); (try simp only [Act.put, List.setIfInBounds_toArray, List.set_cons_zero, List.set_cons_succ])
        refine wpAnyH_ready (rs := [7]) (by kernel_rfl) (by simp) ?_
        refine AllReadyH.cons (o := ⟨_, _, _, _, _, _⟩) rfl (fun K hK => ?_) AllReadyH.nil
        go_simp
        go_at_call 41; refine (pick_c b _ 12 _ (HD3.out.1.below (Below.refl _ _).drew) (by omega) (by omega)).mono ?_; rintro e w5 ⟨t, rfl, ht, hd⟩; have Ht : Hid ((t : Int) ≤ 11) := Lib.hid (by omega); clear ht; have hS' : w5.cell? ⟨NB, k, none⟩ = some (.string nm) := cellDrewD hHeld hd hNB; have HC5 : Hid (∀ k, k < 6 → w5.cell? ⟨NB, k, none⟩ = some (.string (nth cardNames k)) ∧ (nth cardNames k).size ≤ 100) := Lib.hid (fun k hk => ⟨cellDrewD (cell_then (World.block_lt_of_cell? _ _ (HC3.out k hk).1) (HC3.out k hk).1 (Below.refl _ _).drew) hd hNB, (HC3.out k hk).2⟩); have HO5 := Lib.hid (cards_drew (HO3.out.below (Below.refl _ _).drew) hd hbl); have HD5 := Lib.hid ((HD3.out.then_below (Below.refl _ _).drew).trans hd); clear hd
        refine hK.out _ _ (by exact hS') (fun hHeld' => ?_)
        clear hHeld hK K
        have hHeld := hHeld'
        clear hHeld'
        try simp only [Act.put, List.setIfInBounds_toArray, List.set_cons_zero, List.set_cons_succ]
        refine wpAnyH_take (i := 8) (oi := ⟨_, _, _, _, _, _⟩) (v := ?_) rfl (by kernel_rfl) (by kernel_rfl) (by kernel_rfl) (fun _ _ _ h => h) (Or.inl ⟨by rfl, ?_⟩) (by assumption) ?_; rotate_left; (focus (intro w hSw; (try dsimp only at hSw); go_simp; try with_reducible rfl)); (try simp only [Act.put, List.setIfInBounds_toArray, List.set_cons_zero, List.set_cons_succ])
        refine wpAnyH_ready (rs := [9]) (by kernel_rfl) (by simp) ?_
        refine AllReadyH.cons (o := ⟨_, _, _, _, _, _⟩) rfl (fun K hK => ?_) AllReadyH.nil
        go_simp
        refine hK.out _ _ (by exact cellAllocD hHeld _) (fun hHeld' => ?_)
        clear hHeld hK K
        have hHeld := hHeld'
        clear hHeld'
        try simp only [Act.put, List.setIfInBounds_toArray, List.set_cons_zero, List.set_cons_succ]
        refine wpAnyH_ready (rs := [10]) (by kernel_rfl) (by simp) ?_
        refine AllReadyH.cons (o := ⟨_, _, _, _, _, _⟩) rfl (fun K hK => ?_) AllReadyH.nil
        refine step_app_cards rfl _ _ rfl w.heap.size _ l' rfl (HO5.out.alloc _) _ 1 1 [⟨nm, (lv : Int), (t : Int)⟩] rfl rfl (cardNewD _ ⟨nm, (lv : Int), (t : Int)⟩ (show nm.size ≤ _ by omega) _) (fun c hc => by simp at hc; subst hc; show nm.size ≤ _; omega) (by simp; omega) (by have := HD5.out.2.size; simp; omega) ?_; intro a7 n7 c7 w7 ho7 hg7 hl7 hn7; clear hn7; have hS' : w7.cell? ⟨NB, k, none⟩ = some (.string nm) := cellGrownD hHeld hg7 HF.out
        refine hK.out _ _ (by exact hS') (fun hHeld' => ?_)
        clear hHeld hK K
        have hHeld := hHeld'
        clear hHeld'
        try simp only [Act.put, List.setIfInBounds_toArray, List.set_cons_zero, List.set_cons_succ]
        refine wpAnyH_take (i := 11) (oi := ⟨_, _, _, _, _, _⟩) (v := ?_) rfl (by kernel_rfl) (by kernel_rfl) (by kernel_rfl) (fun _ _ _ h => h) (Or.inl ⟨by rfl, ?_⟩) (by assumption) ?_; rotate_left; (focus (intro w hSw; (try dsimp only at hSw); go_simp; try with_reducible rfl)); (try simp only [Act.put, List.setIfInBounds_toArray, List.set_cons_zero, List.set_cons_succ])
        refine wpAnyH_done (by kernel_rfl) ?_ _
        have hN5 : NB < w5.heap.size := World.block_lt_of_cell? _ _ (HC5.out 0 (by decide)).1
        have hs5 := HD5.out.2.size
        have hb7 : Below w.heap.size w5 w7 := ((Below.refl _ _).alloc hs5 _).grown hg7 (by simp; omega) (fun g hg => (World.ownsRow.lt HO5.out.1 g hg).1)
        have HD7 := Lib.hid ((HD5.out.thenK hb7 hbl).mono (show _ ≤ n + 10 * (k + 1) by omega))
        have HC7 : Hid (∀ k, k < 6 → w7.cell? ⟨NB, k, none⟩ = some (.string (nth cardNames k)) ∧ (nth cardNames k).size ≤ 100) := Lib.hid (fun k hk => ⟨cellGrownD (cellAllocD (HC5.out k hk).1 _) hg7 HF.out, (HC5.out k hk).2⟩)
        have HF7 : Hid ((Value.slice a7 n7 c7).ownBlock ≠ some NB) := Lib.hid (by
          rcases hl7 with e | e
          · rw [e]; exact HF.out
          · rw [e]; intro x; injection x with x; simp at x; omega)
        have HO7 := Lib.hid ho7
        have hl2 : l'.length + 1 ≤ k + 1 := by omega
        have HM7 : Hid (∀ x ∈ l' ++ [⟨nm, (lv : Int), (t : Int)⟩], SmC x) := Lib.hid (smC_snoc HM.out ⟨hsz, ⟨by show (-1 : Int) ≤ lv; omega, by show (lv : Int) ≤ 7; have := Hlv.out; omega⟩, ⟨by show (-1 : Int) ≤ t; omega, by show (t : Int) ≤ 100001; have := Ht.out; omega⟩⟩)
        clear ho7 hg7 hl7 hb7 HO5 HD5 HC5 HO3 HD3 HC3 hHeld hS'
        go_wp2
        exact ⟨⟨k + 1, a7, n7, c7, _, by go_num, hlt, rfl, by simp; omega, HO7, HD7, HC7, HF7, HM7⟩, by simp [intOf]; omega⟩
      · have hl2 : l'.length ≤ k + 1 := by omega
        go_wp2
        exact ⟨⟨k + 1, a', n', c', l', by go_num, hlt, rfl, hl2, HO2, Lib.hid (HD2.out.mono (by omega)), HC2, HF, HM⟩, by simp [intOf]; omega⟩
    · go_wp2
      go_ret
      exact ⟨a', n', c', l', rfl, by omega, HO.out, HD.out.mono (by omega), HM.out⟩
theorem l25Draw_c (b n : Nat) (w : World) (h : SrcAt w b n) (hn : n ≤ 1000000) : Calls Tryd.prog 34 #[.pointer (some ⟨b, 0, none⟩)] w (DrawsC b (n + 100) w) := (l25DrawS_c b n w h hn).mono (fun _ _ h => h.weak)
end Go.Proofs.YtclffohjpbmnbaaDoor
