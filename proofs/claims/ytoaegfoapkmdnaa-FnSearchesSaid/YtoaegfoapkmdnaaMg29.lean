import Derived.Test.YtoaegfoapkmdnaaMg28
/- Find: FindPatterns, walked in both packages. -/
namespace Go.Proofs.Ytoaegfoapkmdnaa
open Go.ChangeShapes Go.WideShapes Go.ChangeAt Go.RowKit

def findCode (q : Query) (most : Int) : Int := if okQueryB q = true then (if inB most 0 200 = true then searchCode q else 2) else 1
def findL (q : Query) (most : Int) : List (List Int) := if findCode q most = 0 then (treeR q).2.take most.toNat else []
theorem treeR_len {q : Query} (h : okQueryB q = true) : ∀ x ∈ (treeR q).2, x.length ≤ 12 := by
  intro x hx
  obtain ⟨n, H, hqn, hqH, hn1, hn12, hH, hp0, hp15⟩ := okQuery_in h
  obtain ⟨y, hxy, hy⟩ := tree_ext _ _ _ x hx
  rw [hxy, List.nil_append, hy, hqn]; simpa using hn12
theorem findCode_0 {q : Query} {most : Int} (h : findCode q most = 0) : okQueryB q = true ∧ inB most 0 200 = true ∧ searchCode q = 0 := by
  unfold findCode at h
  split at h
  · rename_i h1
    split at h
    · rename_i h2; exact ⟨h1, h2, h⟩
    · exact absurd h (by decide)
  · exact absurd h (by decide)
theorem findL_len (q : Query) (most : Int) : (findL q most).length ≤ 1048576 := by
  unfold findL
  split
  · rename_i h
    have := inB_true (findCode_0 h).2.1
    rw [List.length_take]; omega
  · simp
theorem findL_in (q : Query) (most : Int) : ∀ x ∈ findL q most, x.length ≤ 1048576 := by
  unfold findL
  split
  · rename_i h
    intro x hx
    have := treeR_len (findCode_0 h).1 x (List.mem_of_mem_take hx)
    omega
  · intro x hx; exact absurd hx List.not_mem_nil
def GivesIntssC (l : List (List Int)) (code : Int) (w : World) (e : Ending) (w' : World) : Prop := ∃ a n c, e = .returned (.tuple #[.slice a n c, .int .i64 code]) ∧ OwnIntss w' w.heap.size (.slice a n c) l ∧ Below w.heap.size w w'
theorem intss_none (w : World) (base : Nat) : OwnIntss w base (.slice none 0 0) [] := ⟨[], rfl, World.ownsRow_nil _ _ _ _, fun _ h => absurd h List.not_mem_nil, List.Pairwise.nil⟩
theorem GivesIntssC.none {l : List (List Int)} {c1 c2 : Int} {w w' : World} (h : l = []) (hc : c1 = c2) (hb : Below w.heap.size w w') : GivesIntssC l c1 w (.returned (.tuple #[.slice Option.none 0 0, .int .i64 c2])) w' :=
  ⟨Option.none, 0, 0, by rw [hc], by rw [h]; exact intss_none _ _, hb⟩
theorem GivesIntssC.mk {l : List (List Int)} {c1 c2 : Int} {a : Option Addr} {n c : Nat} {w w' : World} (hc : c1 = c2) (ho : OwnIntss w' w.heap.size (.slice a n c) l) (hb : Below w.heap.size w w') : GivesIntssC l c1 w (.returned (.tuple #[.slice a n c, .int .i64 c2])) w' :=
  ⟨a, n, c, by rw [hc], ho, hb⟩
theorem OwnIntss.mono {w : World} {base base' : Nat} {v : Value} {l : List (List Int)} (h : OwnIntss w base' v l) (hb : base ≤ base') : OwnIntss w base v l := by
  obtain ⟨ps, h1, h2, h3, h4⟩ := h
  exact ⟨ps, h1, own_mono h2 hb, fun p hp => ⟨(h3 p hp).1, own_mono (h3 p hp).2.1 hb, (h3 p hp).2.2.1, (h3 p hp).2.2.2⟩, h4⟩
theorem OwnIntss.cut {w : World} {base n c k : Nat} {a : Option Addr} {l : List (List Int)} (h : OwnIntss w base (.slice a n c) l) (hk : k ≤ l.length) (ha : a ≠ none) : OwnIntss w base (.slice a k c) (l.take k) := by
  obtain ⟨ps, rfl, h2, h3, h4⟩ := h
  have hb : (Value.slice a k c).ownBlock = (Value.slice a n c).ownBlock := by cases a <;> rfl
  have e : ∀ qs : List (Value × List Int), qs.flatMap (fun p => intssS.enc p.1 p.2) = qs.map (·.1) := fun qs => by
    induction qs with
    | nil => rfl
    | cons x t ih => rw [List.flatMap_cons, ih]; rfl
  rw [List.length_map] at hk
  have hl : ((ps.map (·.2)).take k).length = k := by rw [List.length_take, List.length_map]; omega
  have h2' : w.ownsRow base 24 1 (.slice a n c) ps.length (ps.map (·.1)) := by rw [← e]; rw [List.length_map] at h2; exact h2
  refine ⟨ps.take k, by rw [List.map_take], ?_, fun p hp => ?_, h4.sublist (List.take_sublist _ _)⟩
  · rw [hl, e]
    show w.ownsRow base 24 1 (.slice a k c) k ((ps.take k).map (·.1))
    obtain ⟨h1, h2⟩ := h2'
    refine ⟨by simp; omega, ?_⟩
    rcases h2 with ⟨e, _⟩ | ⟨g, cap, cur, e, hbg, hg, hnc, hcm, hcs, htake⟩
    · injection e with e; exact absurd e ha
    · injection e with e1 e2 e3
      subst e1 e2 e3
      refine .inr ⟨g, c, cur, rfl, hbg, hg, by omega, hcm, hcs, ?_⟩
      have h3 := congrArg (fun x : List Value => x.take (k * 1)) htake
      simp only [List.take_take] at h3
      rw [Nat.min_eq_left (by omega)] at h3
      rw [h3, List.map_take, Nat.mul_one]
  · obtain ⟨g1, g2, g3, g4⟩ := h3 p (List.mem_of_mem_take hp)
    exact ⟨g1, g2, g3, fun g hg => by rw [hb]; exact g4 g hg⟩
theorem OwnIntss.cut0 {w : World} {base n c k : Nat} {a : Option Addr} {l : List (List Int)} (h : OwnIntss w base (.slice a n c) l) (hk : k ≤ l.length) : OwnIntss w base (.slice a k c) (l.take k) := by
  cases a with
  | some p => exact h.cut hk (by simp)
  | none =>
    obtain ⟨ps, h1, h2, _, _⟩ := h
    rcases h2.2 with ⟨e, h0⟩ | ⟨g, cap, cur, e, _⟩
    · injection e with _ _ e3
      have hk0 : k = 0 := by omega
      subst hk0; subst e3
      rw [List.take_zero]; exact intss_none _ _
    · injection e with e1; cases e1
theorem behB_none (l : List (List Int)) : l.filter (behB []) = l := List.filter_eq_self.2 (fun x _ => by simp [behB])
set_option maxRecDepth 100000 in
set_option maxHeartbeats 2000000 in
theorem sFindPatterns_c (q : Query) (y z : Value) (most : Int) (w : World) (hQ : QAt w q y z) :
    Calls Try.prog 7 #[.agg #[.int .i64 q.period, .int .i64 q.props, .int .i64 q.high, y, z, .bool q.canonical], .int .i64 most] w (GivesIntssC (findL q most) (findCode q most) w) := by
  have HQ := Lib.hid hQ; clear hQ
  have HI := Lib.hid (fun W => l00In_c most 0 200 W)
  have HB := Lib.hid (BoxIs.new w [.int .i64 q.period, .int .i64 q.props, .int .i64 q.high, y, z, .bool q.canonical] 26)
  go_enter Try.func7, Try.ntmps7
  go_wp2_with fail
  have hb0 : Below w.heap.size w (w.alloc (.cells #[.int .i64 q.period, .int .i64 q.props, .int .i64 q.high, y, z, .bool q.canonical] 26)) := by go_grown
  generalize w.alloc (.cells #[.int .i64 q.period, .int .i64 q.props, .int .i64 q.high, y, z, .bool q.canonical] 26) = w0 at *
  refine (l21All_c q y z w.heap.size _ HB.out (HQ.out.below hb0)).mono ?_
  rintro e w1 ⟨hb1, ⟨hm, p, rfl⟩ | ⟨hm, b, rfl, hc⟩⟩
  · have HC : Hid (findCode q most = 1) := Lib.hid (by unfold findCode; rw [hm]; rfl)
    have hb := bthen hb0 hb1
    clear hm
    go_wp2
    go_ret2
    exact GivesIntssC.none (by unfold findL; rw [HC.out]; rfl) HC.out hb
  · have hb := bthen hb0 hb1
    have HB1 := Lib.hid (HB.out.below hb1)
    clear hc hb1 hb0 HB
    have HO := Lib.hid hm
    have hs1 : (searchCode q == 1) = false := beq_eq_false_iff_ne.2 (by unfold searchCode; rw [if_pos hm]; split <;> decide)
    have HF : Hid (findCode q most = if inB most 0 200 = true then searchCode q else 2) := Lib.hid (by unfold findCode; rw [if_pos hm])
    have HT : Hid (searchCode q = 0 → (treeR q).1 ≤ 20000) := Lib.hid (fun h => by
      rcases Nat.lt_or_ge 20000 (treeR q).1 with h2 | h2
      · rw [searchCode_5 hm h2] at h; exact absurd h (by decide)
      · exact h2)
    generalize hsc : searchCode q = s at *
    have HSC := Lib.hid hsc
    clear hm hsc
    generalize hin : inB most 0 200 = bi at *
    have HIn := Lib.hid hin
    clear hin
    cases bi
    · have HC : Hid (findCode q most = 2) := Lib.hid (by rw [HF.out]; rfl)
      go_wp2_with fail
      refine (HI.out _).mono ?_
      rintro e w2 ⟨rfl, hb2⟩
      go_wp2
      go_ret2
      exact GivesIntssC.none (by unfold findL; rw [HC.out]; rfl) HC.out (bthen hb hb2)
    · have HC : Hid (findCode q most = s) := Lib.hid (by rw [HF.out]; rfl)
      by_cases h0 : s = 0
      · subst h0
        have HT' := Lib.hid (HT.out rfl)
        clear hs1
        go_wp2_with fail
        refine (HI.out _).mono ?_
        rintro e w2 ⟨rfl, hb2⟩
        have hb' := bthen hb hb2
        have HW := Lib.hid (l21Walk_c q y z (.slice none 0 0) [] most w.heap.size w2 (HB1.out.below hb2) (HQ.out.below hb') (ints_nil w2) (.inl rfl) HO.out)
        go_wp2_with fail
        refine HW.out.mono ?_
        rintro e w3 ⟨b', g, nv, ov, ps, rfl, hI, hF, hb3⟩
        clear HW
        obtain ⟨oa, on, oc, rfl⟩ := hI.os
        have c7 := hI.box.c7
        have HR : Hid (OwnIntss w3 w.heap.size (.slice oa on oc) (findL q most)) := Lib.hid (by
          have h1 := hI.found
          rw [hF, walked_take HO.out (inB_true HIn.out).1 (.inl rfl) HT'.out, behB_none] at h1
          unfold findL; rw [if_pos HC.out]
          exact h1.mono hb'.size)
        clear hI hF
        go_wp2
        go_ret2
        exact GivesIntssC.mk HC.out HR.out (bthen hb' hb3)
      · have H0 := Lib.hid h0
        have hne : (s == 0) = false := beq_eq_false_iff_ne.2 h0
        clear h0
        go_wp2_with fail
        refine (HI.out _).mono ?_
        rintro e w2 ⟨rfl, hb2⟩
        go_wp2
        go_ret2
        exact GivesIntssC.none (by unfold findL; rw [HC.out, if_neg H0.out]) HC.out (bthen hb hb2)
set_option maxRecDepth 100000 in
set_option maxHeartbeats 2000000 in
theorem iFindPatterns_c (q : Query) (y z : Value) (most : Int) (w : World) (hQ : QAt w q y z) :
    Calls Try.prog 6 #[.agg #[.int .i64 q.period, .int .i64 q.props, .int .i64 q.high, y, z, .bool q.canonical], .int .i64 most] w (GivesIntssC (findL q most) (findCode q most) w) := by
  have HQ := Lib.hid hQ; clear hQ
  have HK1 := Lib.hid (fun W x => iValidQuery_c q y z W x)
  have HK2 := Lib.hid (fun W x h => searched_c q y z W x h)
  have HI := Lib.hid (fun W => between_c most 0 200 W)
  have HF : Hid (findCode q most = if okQueryB q = true then (if inB most 0 200 = true then searchCode q else 2) else 1) := Lib.hid rfl
  generalize hm : okQueryB q = m at *
  cases m
  · have HC : Hid (findCode q most = 1) := Lib.hid HF.out
    clear hm HK2
    go_enter Try.func6, Try.ntmps6
    go_wp2_with fail
    refine (HK1.out _ (HQ.out.below (by go_grown))).mono ?_
    rintro e w1 ⟨rfl, hb1⟩
    have hb := bthen (by go_grown : Below w.heap.size w _) hb1
    go_wp2
    go_ret2
    exact GivesIntssC.none (by unfold findL; rw [HC.out]; rfl) HC.out hb
  · have HO := Lib.hid hm
    clear hm
    generalize hin : inB most 0 200 = bi at *
    have HIn := Lib.hid hin
    clear hin
    cases bi
    · have HC : Hid (findCode q most = 2) := Lib.hid HF.out
      go_enter Try.func6, Try.ntmps6
      go_wp2_with fail
      refine (HK1.out _ (HQ.out.below (by go_grown))).mono ?_
      rintro e w1 ⟨rfl, hb1⟩
      have hb := bthen (by go_grown : Below w.heap.size w _) hb1
      go_wp2_with fail
      refine (HI.out _).mono ?_
      rintro e w2 ⟨rfl, hb2⟩
      go_wp2
      go_ret2
      exact GivesIntssC.none (by unfold findL; rw [HC.out]; rfl) HC.out (bthen hb hb2)
    · have HC : Hid (findCode q most = searchCode q) := Lib.hid HF.out
      go_enter Try.func6, Try.ntmps6
      go_wp2_with fail
      refine (HK1.out _ (HQ.out.below (by go_grown))).mono ?_
      rintro e w1 ⟨rfl, hb1⟩
      have hb := bthen (by go_grown : Below w.heap.size w _) hb1
      have HB := Lib.hid ((BoxIs.new w [.int .i64 q.period, .int .i64 q.props, .int .i64 q.high, y, z, .bool q.canonical] 26).below hb1)
      go_wp2_with fail
      refine (HI.out _).mono ?_
      rintro e w2 ⟨rfl, hb2⟩
      have hb' := bthen hb hb2
      obtain ⟨e0, f0⟩ := (HB.out.below hb2).cells
      clear hb1
      go_wp2_with fail
      refine (HK2.out _ (HQ.out.below hb') trivial).mono ?_
      rintro e w3 ⟨hb3, ⟨hv, rfl⟩ | ⟨hv, b, lv, fv, ps, rfl, hI, hF⟩⟩
      · have HC5 : Hid (searchCode q = 5) := Lib.hid (searchCode_5 HO.out (by
          rcases Nat.lt_or_ge 20000 (treeR q).1 with h | h
          · exact h
          · have := search_tree.1 h; rw [this] at hv; dsimp only at hv; omega))
        clear hv HK1 HK2 HB e0 f0
        go_wp2
        go_ret2
        exact GivesIntssC.none (by unfold findL; rw [HC.out, HC5.out]; rfl) (by rw [HC.out, HC5.out]) (bthen hb' hb3)
      · have ht : (treeR q).1 ≤ 20000 := by
          rcases Nat.lt_or_ge 20000 (treeR q).1 with h | h
          · have := search_tree.2 h; omega
          · exact h
        have HC0 : Hid (searchCode q = 0) := Lib.hid (searchCode_0 HO.out ht)
        have hS := search_tree.1 ht
        obtain ⟨fa, fn, fc, rfl⟩ := hI.fs
        have hfn : fn = (treeR q).2.length := by
          have h := congrArg List.length hF
          rw [List.length_map, hS] at h
          obtain ⟨_, _, e⟩ := slice_of_own hI.row
          injection e with _ e2 _
          exact e2.trans h
        have HFd : Hid (OwnIntss w3 w.heap.size (.slice fa fn fc) (treeR q).2) := Lib.hid (by
          have h1 := hI.found
          rw [hF, hS] at h1
          exact h1.mono hb'.size)
        have HFn := Lib.hid hfn
        have c20 := hI.box.c20
        have hm1 := inB_true HIn.out
        have hcap0 : fn ≤ fc := by
          rcases hI.row.2 with ⟨e, _⟩ | ⟨g, cap, cur, e, _, _, hnc, _⟩
          · injection e with _ e1 e2; omega
          · injection e with _ e1 e2; omega
        have hbs3 := hI.box.lt
        clear hv HK1 HK2 HB e0 f0 hI hF hS ht hfn
        have HC20 := Lib.hid c20
        have hbw : Below w3.heap.size w3 w3 := Below.refl _ _
        have hcap := hcap0
        by_cases hlt : (fn : Int) < most
        · have hi0 : (0 : Int) ≤ (fn : Int) := by omega
          have hi1 : (fn : Int) ≤ (fc : Int) := by omega
          have hmin : (if (fn : Int) < most then (Value.int .i64 (fn : Int)) else Value.int .i64 most) = Value.int .i64 (fn : Int) := if_pos hlt
          have HL : Hid ((treeR q).2 = findL q most) := Lib.hid (by unfold findL; rw [HC.out, if_pos HC0.out, List.take_of_length_le (by rw [← HFn.out]; omega)])
          go_wp2
          refine wp_region_held_drew (S := fun w' => Below w3.heap.size w3 w') (by kernel_rfl) (by exact (hbw).drew) (fun hHeld => ?_)
          refine wpAnyH_take (i := 0) (oi := ⟨_, _, _, _, _, _⟩) (v := ?_) rfl (by kernel_rfl) (by kernel_rfl) (by kernel_rfl) (fun _ _ _ h => h) (Or.inl ⟨by rfl, ?_⟩) (by assumption) ?_; rotate_left; (focus (intro w hSw; (try dsimp only at hSw); go_simp; try with_reducible rfl)); (try simp only [Act.put, List.setIfInBounds_toArray, List.set_cons_zero, List.set_cons_succ])
          refine wpAnyH_take (i := 1) (oi := ⟨_, _, _, _, _, _⟩) (v := ?_) rfl (by kernel_rfl) (by kernel_rfl) (by kernel_rfl) (fun _ _ _ h => h) (Or.inl ⟨by rfl, ?_⟩) (by assumption) ?_; rotate_left; (focus (intro w hSw; (try dsimp only at hSw); go_simp; try with_reducible rfl)); (try simp only [Act.put, List.setIfInBounds_toArray, List.set_cons_zero, List.set_cons_succ])
          refine wpAnyH_take (i := 2) (oi := ⟨_, _, _, _, _, _⟩) (v := ?_) rfl (by kernel_rfl) (by kernel_rfl) (by kernel_rfl) (fun _ _ _ h => h) (Or.inl ⟨by rfl, ?_⟩) (by assumption) ?_; rotate_left; (focus (intro w hSw; (try dsimp only at hSw); go_simp; try with_reducible rfl)); (try simp only [Act.put, List.setIfInBounds_toArray, List.set_cons_zero, List.set_cons_succ])
          refine wpAnyH_take (i := 3) (oi := ⟨_, _, _, _, _, _⟩) (v := ?_) rfl (by kernel_rfl) (by kernel_rfl) (by kernel_rfl) (fun _ _ _ h => h) (Or.inl ⟨by rfl, ?_⟩) (by assumption) ?_; rotate_left; (focus (intro w hSw; (try dsimp only at hSw); have t0 := cell_then hbs3 HC20.out hSw; go_simp; try with_reducible rfl)); (try simp only [Act.put, List.setIfInBounds_toArray, List.set_cons_zero, List.set_cons_succ])
          refine wpAnyH_take (i := 4) (oi := ⟨_, _, _, _, _, _⟩) (v := ?_) rfl (by kernel_rfl) (by kernel_rfl) (by kernel_rfl) (fun _ _ _ h => h) (Or.inl ⟨by rfl, ?_⟩) (by assumption) ?_; rotate_left; (focus (intro w hSw; (try dsimp only at hSw); go_simp; try with_reducible rfl)); (try simp only [Act.put, List.setIfInBounds_toArray, List.set_cons_zero, List.set_cons_succ])
          refine wpAnyH_take (i := 5) (oi := ⟨_, _, _, _, _, _⟩) (v := ?_) rfl (by kernel_rfl) (by kernel_rfl) (by kernel_rfl) (fun _ _ _ h => h) (Or.inl ⟨by rfl, ?_⟩) (by assumption) ?_; rotate_left; (focus (intro w hSw; (try dsimp only at hSw); go_simp; try with_reducible rfl)); (try simp only [Act.put, List.setIfInBounds_toArray, List.set_cons_zero, List.set_cons_succ])
          refine wpAnyH_take (i := 6) (oi := ⟨_, _, _, _, _, _⟩) (v := ?_) rfl (by kernel_rfl) (by kernel_rfl) (by kernel_rfl) (fun _ _ _ h => h) (Or.inl ⟨by rfl, ?_⟩) (by assumption) ?_; rotate_left; (focus (intro w hSw; (try dsimp only at hSw); go_simp; try with_reducible rfl)); (try simp only [Act.put, List.setIfInBounds_toArray, List.set_cons_zero, List.set_cons_succ])
          refine wpAnyH_take (i := 7) (oi := ⟨_, _, _, _, _, _⟩) (v := ?_) rfl (by kernel_rfl) (by kernel_rfl) (by kernel_rfl) (fun _ _ _ h => h) (Or.inl ⟨by rfl, ?_⟩) (by assumption) ?_; rotate_left; (focus (intro w hSw; (try dsimp only at hSw); go_simp; try with_reducible rfl)); (try simp only [Act.put, List.setIfInBounds_toArray, List.set_cons_zero, List.set_cons_succ])
          refine wpAnyH_take (i := 8) (oi := ⟨_, _, _, _, _, _⟩) (v := ?_) rfl (by kernel_rfl) (by kernel_rfl) (by kernel_rfl) (fun _ _ _ h => h) (Or.inl ⟨by rfl, ?_⟩) (by assumption) ?_; rotate_left; (focus (intro w hSw; (try dsimp only at hSw); have t0 := cell_then hbs3 HC20.out hSw; go_simp; try with_reducible rfl)); (try simp only [Act.put, List.setIfInBounds_toArray, List.set_cons_zero, List.set_cons_succ])
          refine wpAnyH_take (i := 9) (oi := ⟨_, _, _, _, _, _⟩) (v := ?_) rfl (by kernel_rfl) (by kernel_rfl) (by kernel_rfl) (fun _ _ _ h => h) (Or.inl ⟨by rfl, ?_⟩) (by assumption) ?_; rotate_left; (focus (intro w hSw; (try dsimp only at hSw); go_simp; try with_reducible rfl)); (try simp only [Act.put, List.setIfInBounds_toArray, List.set_cons_zero, List.set_cons_succ])
          refine wpAnyH_take (i := 10) (oi := ⟨_, _, _, _, _, _⟩) (v := ?_) rfl (by kernel_rfl) (by kernel_rfl) (by kernel_rfl) (fun _ _ _ h => h) (Or.inl ⟨by rfl, ?_⟩) (by assumption) ?_; rotate_left; (focus (intro w hSw; (try dsimp only at hSw); have t0 := cell_then hbs3 HC20.out hSw; go_simp; try with_reducible rfl)); (try simp only [Act.put, List.setIfInBounds_toArray, List.set_cons_zero, List.set_cons_succ])
          refine wpAnyH_take (i := 11) (oi := ⟨_, _, _, _, _, _⟩) (v := ?_) rfl (by kernel_rfl) (by kernel_rfl) (by kernel_rfl) (fun _ _ _ h => h) (Or.inl ⟨by rfl, ?_⟩) (by assumption) ?_; rotate_left; (focus (intro w hSw; (try dsimp only at hSw); go_simp; try with_reducible rfl)); (try simp only [Act.put, List.setIfInBounds_toArray, List.set_cons_zero, List.set_cons_succ])
          refine wpAnyH_take (i := 12) (oi := ⟨_, _, _, _, _, _⟩) (v := ?_) rfl (by kernel_rfl) (by kernel_rfl) (by kernel_rfl) (fun _ _ _ h => h) (Or.inl ⟨by rfl, ?_⟩) (by assumption) ?_; rotate_left; (focus (intro w hSw; (try dsimp only at hSw); go_simp; try with_reducible rfl)); (try simp only [Act.put, List.setIfInBounds_toArray, List.set_cons_zero, List.set_cons_succ])
          refine wpAnyH_take (i := 13) (oi := ⟨_, _, _, _, _, _⟩) (v := ?_) rfl (by kernel_rfl) (by kernel_rfl) (by kernel_rfl) (fun _ _ _ h => h) (Or.inl ⟨by rfl, ?_⟩) (by assumption) ?_; rotate_left; (focus (intro w hSw; (try dsimp only at hSw); go_simp; try with_reducible rfl)); (try simp only [Act.put, List.setIfInBounds_toArray, List.set_cons_zero, List.set_cons_succ])
          refine wpAnyH_done (by kernel_rfl) ?_ _
          have HB4 := Lib.hid (bthen (bthen hb' hb3) hHeld)
          have HO4 : Hid (OwnIntss w3.drew w.heap.size (.slice fa fn fc) (findL q most)) := Lib.hid (by rw [← HL.out]; exact OwnNest.below HFd.out hHeld)
          go_wp2
          go_ret2
          exact GivesIntssC.mk (by rw [HC.out, HC0.out]) HO4.out HB4.out
        · obtain ⟨r, rfl⟩ : ∃ r : Nat, most = (r : Int) := ⟨most.toNat, by omega⟩
          have hi0 : (0 : Int) ≤ (r : Int) := by omega
          have hi1 : (r : Int) ≤ (fc : Int) := by omega
          have HLT : Hid (¬ (fn : Int) < (r : Int)) := Lib.hid hlt
          clear hlt
          have HL : Hid ((treeR q).2.take r = findL q (r : Int)) := Lib.hid (by unfold findL; rw [HC.out, if_pos HC0.out]; simp)
          have HO3 : Hid (OwnIntss w3 w.heap.size (.slice fa r fc) (findL q (r : Int))) := Lib.hid (by rw [← HL.out]; exact HFd.out.cut0 (by rw [← HFn.out]; have := HLT.out; omega))
          go_wp2
          refine wp_region_held_drew (S := fun w' => Below w3.heap.size w3 w') (by kernel_rfl) (by exact (hbw).drew) (fun hHeld => ?_)
          refine wpAnyH_take (i := 0) (oi := ⟨_, _, _, _, _, _⟩) (v := ?_) rfl (by kernel_rfl) (by kernel_rfl) (by kernel_rfl) (fun _ _ _ h => h) (Or.inl ⟨by rfl, ?_⟩) (by assumption) ?_; rotate_left; (focus (intro w hSw; (try dsimp only at hSw); go_simp; try with_reducible rfl)); (try simp only [Act.put, List.setIfInBounds_toArray, List.set_cons_zero, List.set_cons_succ])
          refine wpAnyH_take (i := 1) (oi := ⟨_, _, _, _, _, _⟩) (v := ?_) rfl (by kernel_rfl) (by kernel_rfl) (by kernel_rfl) (fun _ _ _ h => h) (Or.inl ⟨by rfl, ?_⟩) (by assumption) ?_; rotate_left; (focus (intro w hSw; (try dsimp only at hSw); go_simp; try with_reducible rfl)); (try simp only [Act.put, List.setIfInBounds_toArray, List.set_cons_zero, List.set_cons_succ])
          refine wpAnyH_take (i := 2) (oi := ⟨_, _, _, _, _, _⟩) (v := ?_) rfl (by kernel_rfl) (by kernel_rfl) (by kernel_rfl) (fun _ _ _ h => h) (Or.inl ⟨by rfl, ?_⟩) (by assumption) ?_; rotate_left; (focus (intro w hSw; (try dsimp only at hSw); go_simp; try with_reducible rfl)); (try simp only [Act.put, List.setIfInBounds_toArray, List.set_cons_zero, List.set_cons_succ])
          refine wpAnyH_take (i := 3) (oi := ⟨_, _, _, _, _, _⟩) (v := ?_) rfl (by kernel_rfl) (by kernel_rfl) (by kernel_rfl) (fun _ _ _ h => h) (Or.inl ⟨by rfl, ?_⟩) (by assumption) ?_; rotate_left; (focus (intro w hSw; (try dsimp only at hSw); have t0 := cell_then hbs3 HC20.out hSw; have t1 : ¬ fn < r := (by have := HLT.out; omega); go_simp; try with_reducible rfl)); (try simp only [Act.put, List.setIfInBounds_toArray, List.set_cons_zero, List.set_cons_succ])
          refine wpAnyH_take (i := 4) (oi := ⟨_, _, _, _, _, _⟩) (v := ?_) rfl (by kernel_rfl) (by kernel_rfl) (by kernel_rfl) (fun _ _ _ h => h) (Or.inl ⟨by rfl, ?_⟩) (by assumption) ?_; rotate_left; (focus (intro w hSw; (try dsimp only at hSw); go_simp; try with_reducible rfl)); (try simp only [Act.put, List.setIfInBounds_toArray, List.set_cons_zero, List.set_cons_succ])
          refine wpAnyH_take (i := 5) (oi := ⟨_, _, _, _, _, _⟩) (v := ?_) rfl (by kernel_rfl) (by kernel_rfl) (by kernel_rfl) (fun _ _ _ h => h) (Or.inl ⟨by rfl, ?_⟩) (by assumption) ?_; rotate_left; (focus (intro w hSw; (try dsimp only at hSw); go_simp; try with_reducible rfl)); (try simp only [Act.put, List.setIfInBounds_toArray, List.set_cons_zero, List.set_cons_succ])
          refine wpAnyH_take (i := 6) (oi := ⟨_, _, _, _, _, _⟩) (v := ?_) rfl (by kernel_rfl) (by kernel_rfl) (by kernel_rfl) (fun _ _ _ h => h) (Or.inl ⟨by rfl, ?_⟩) (by assumption) ?_; rotate_left; (focus (intro w hSw; (try dsimp only at hSw); go_simp; try with_reducible rfl)); (try simp only [Act.put, List.setIfInBounds_toArray, List.set_cons_zero, List.set_cons_succ])
          refine wpAnyH_take (i := 7) (oi := ⟨_, _, _, _, _, _⟩) (v := ?_) rfl (by kernel_rfl) (by kernel_rfl) (by kernel_rfl) (fun _ _ _ h => h) (Or.inl ⟨by rfl, ?_⟩) (by assumption) ?_; rotate_left; (focus (intro w hSw; (try dsimp only at hSw); go_simp; try with_reducible rfl)); (try simp only [Act.put, List.setIfInBounds_toArray, List.set_cons_zero, List.set_cons_succ])
          refine wpAnyH_take (i := 8) (oi := ⟨_, _, _, _, _, _⟩) (v := ?_) rfl (by kernel_rfl) (by kernel_rfl) (by kernel_rfl) (fun _ _ _ h => h) (Or.inl ⟨by rfl, ?_⟩) (by assumption) ?_; rotate_left; (focus (intro w hSw; (try dsimp only at hSw); have t0 := cell_then hbs3 HC20.out hSw; have t1 : ¬ fn < r := (by have := HLT.out; omega); go_simp; try with_reducible rfl)); (try simp only [Act.put, List.setIfInBounds_toArray, List.set_cons_zero, List.set_cons_succ])
          refine wpAnyH_take (i := 9) (oi := ⟨_, _, _, _, _, _⟩) (v := ?_) rfl (by kernel_rfl) (by kernel_rfl) (by kernel_rfl) (fun _ _ _ h => h) (Or.inl ⟨by rfl, ?_⟩) (by assumption) ?_; rotate_left; (focus (intro w hSw; (try dsimp only at hSw); go_simp; try with_reducible rfl)); (try simp only [Act.put, List.setIfInBounds_toArray, List.set_cons_zero, List.set_cons_succ])
          refine wpAnyH_take (i := 10) (oi := ⟨_, _, _, _, _, _⟩) (v := ?_) rfl (by kernel_rfl) (by kernel_rfl) (by kernel_rfl) (fun _ _ _ h => h) (Or.inl ⟨by rfl, ?_⟩) (by assumption) ?_; rotate_left; (focus (intro w hSw; (try dsimp only at hSw); have t0 := cell_then hbs3 HC20.out hSw; have t1 : ¬ fn < r := (by have := HLT.out; omega); go_simp; try with_reducible rfl)); (try simp only [Act.put, List.setIfInBounds_toArray, List.set_cons_zero, List.set_cons_succ])
          refine wpAnyH_take (i := 11) (oi := ⟨_, _, _, _, _, _⟩) (v := ?_) rfl (by kernel_rfl) (by kernel_rfl) (by kernel_rfl) (fun _ _ _ h => h) (Or.inl ⟨by rfl, ?_⟩) (by assumption) ?_; rotate_left; (focus (intro w hSw; (try dsimp only at hSw); go_simp; try with_reducible rfl)); (try simp only [Act.put, List.setIfInBounds_toArray, List.set_cons_zero, List.set_cons_succ])
          refine wpAnyH_take (i := 12) (oi := ⟨_, _, _, _, _, _⟩) (v := ?_) rfl (by kernel_rfl) (by kernel_rfl) (by kernel_rfl) (fun _ _ _ h => h) (Or.inl ⟨by rfl, ?_⟩) (by assumption) ?_; rotate_left; (focus (intro w hSw; (try dsimp only at hSw); go_simp; try with_reducible rfl)); (try simp only [Act.put, List.setIfInBounds_toArray, List.set_cons_zero, List.set_cons_succ])
          refine wpAnyH_take (i := 13) (oi := ⟨_, _, _, _, _, _⟩) (v := ?_) rfl (by kernel_rfl) (by kernel_rfl) (by kernel_rfl) (fun _ _ _ h => h) (Or.inl ⟨by rfl, ?_⟩) (by assumption) ?_; rotate_left; (focus (intro w hSw; (try dsimp only at hSw); go_simp; try with_reducible rfl)); (try simp only [Act.put, List.setIfInBounds_toArray, List.set_cons_zero, List.set_cons_succ])
          refine wpAnyH_done (by kernel_rfl) ?_ _
          have HB4 := Lib.hid (bthen (bthen hb' hb3) hHeld)
          have HO4 : Hid (OwnIntss w3.drew w.heap.size (.slice fa r fc) (findL q (r : Int))) := Lib.hid (OwnNest.below HO3.out hHeld)
          go_wp2
          go_ret2
          exact GivesIntssC.mk (by rw [HC.out, HC0.out]) HO4.out HB4.out
end Go.Proofs.Ytoaegfoapkmdnaa
