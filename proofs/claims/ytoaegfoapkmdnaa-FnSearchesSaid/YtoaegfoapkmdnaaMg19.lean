import Derived.Test.YtoaegfoapkmdnaaMg18
/- Visit: the search of the package impl, walked. -/
namespace Go.Proofs.Ytoaegfoapkmdnaa
open Go.ChangeShapes Go.WideShapes Go.ChangeAt Go.RowKit

def takenF (n : Nat) (pre : List Int) (j : Nat) : Bool := decide (j ∈ landN n pre)
def huntR (q : Query) (n H d : Nat) (pre : List Int) (rest : Int) (v : Nat) (F : List (List Int)) : HSt := huntF (matchB q) (frB q n) H d pre rest ⟨v, F⟩
def VisitPost (w00 : World) (b : Nat) (q : Query) (y z : Value) (n : Nat) (pre : List Int) (R : HSt) (e : Ending) (w' : World) : Prop :=
  e = .returned (.tuple #[]) ∧ ∃ lv' fv' ps', HInv w' w00.heap.size b q y z lv' fv' ps' pre (takenF n pre) R.v ∧ ps'.map (·.2) = R.f ∧ Below w00.heap.size w00 w'
theorem VisitPost.mk {w00 w' : World} {b : Nat} {q : Query} {y z lv fv : Value} {n : Nat} {pre : List Int} {R : HSt} {v : Nat} {ps : List (Value × List Int)} (hR : R = ⟨v, ps.map (·.2)⟩)
    (hI : HInv w' w00.heap.size b q y z lv fv ps pre (takenF n pre) v) (hb : Below w00.heap.size w00 w') : VisitPost w00 b q y z n pre R (.returned (.tuple #[])) w' := by
  subst hR; exact ⟨rfl, lv, fv, ps, hI, rfl, hb⟩
theorem go_below_alloc' (W : World) (o : Obj) : Below W.heap.size W (W.alloc o) := (Below.refl _ _).alloc (Nat.le_refl _) _
theorem intsInfo0 : (Try.prog.info? 24).map (fun i => (i.zero, i.size, i.bytes)) = some (some (.slice none 0 0), 1, 24) := by kernel_rfl
/-- 'append(out, list)' at lists of numbers, in a region that draws its order. -/
theorem step_app_intss {w : World} {ops : Array Oper} {o : Oper} {a : Act} {K : Act → World → Prop} {Q : Exit → Act → World → Prop} {E : Prop} (hgd : o.guard = none) (s x : Operand)
    (ho : o.op = .call { callee := .builtin .append, args := #[s, x], argTypes := #[29, 29] })
    (base : Nat) (v : Value) (n : Nat) (xs : List Value) (hs : a.eval s = v) (hown : w.ownsRow base 24 1 v n xs)
    (A : Option Addr) (m c : Nat) (news : List Value) (hx : a.eval x = .slice A m c) (hr : Reads w w.heap.size 1 A m news) (h1 : ∀ u ∈ news, u.oneCell' = true)
    (hsz : n + m ≤ 1073741824) (hbase : base ≤ w.heap.size)
    (h : ∀ a' n' c' w', w'.ownsRow base 24 1 (.slice a' n' c') (n + m) (xs ++ news) → w.grownBy w' v.ownBlock → ((Value.slice a' n' c').ownBlock = v.ownBlock ∨ (Value.slice a' n' c').ownBlock = some w.heap.size) → K (a.put o.dst (.slice a' n' c')) w') :
    if Region.wanted o (yielded ops a.tmps) = true then Oper.wp Try.prog o a w K Q else E := by
  obtain ⟨i0, hi, hz0, hz1, hz2⟩ := info_parts intsInfo0
  refine step_append_any w hgd s x 29 ho base 24 i0 _ 1 24 Try.underlying29 hi hz0 hz1 hz2 rfl (by decide) v n xs hs hown w.heap.size A m c news hx hr h1 (by unfold maxLen; omega) (by omega) hbase ?_
  intro v' w' hown' hg hb
  obtain ⟨a', c', rfl⟩ := slice_of_own hown'
  exact h a' _ c' w' hown' hg hb
theorem ints_reads (w : World) (u : Value) (t : TypeId) : Reads (w.alloc (.cells #[u] t)) (w.alloc (.cells #[u] t)).heap.size 1 (some ⟨w.heap.size, 0, none⟩) 1 [u] := by
  refine ⟨rfl, fun _ => ⟨_, rfl, by simp, fun j x hx => ?_⟩⟩
  have ea : (⟨w.heap.size, 0, none⟩ : Addr).add j = ⟨w.heap.size, j, none⟩ := by unfold Addr.add; split <;> simp_all
  rw [ea, World.cell?_alloc_at _ _ _ _ rfl]
  simpa using hx
set_option maxRecDepth 100000 in
set_option maxHeartbeats 4000000 in
theorem visit_zero (q : Query) (y z : Value) (n H : Nat) (hqn : q.period = (n : Int)) (hqH : q.high = (H : Int)) (hn1 : 1 ≤ n) (hn12 : n ≤ 12) (hH : H ≤ 15) (w00 : World) (hq : QAt w00 q y z) (b : Nat) (hbb : w00.heap.size ≤ b)
    (pre : List Int) (rest left : Int) (w : World) (lv fv : Value) (ps : List (Value × List Int)) (v : Nat) (hd : pre.length = n) (hg : Good q n pre left) (hI : HInv w w00.heap.size b q y z lv fv ps pre (takenF n pre) v) (hb0 : Below w00.heap.size w00 w)
    (hv : v ≤ 20000) (hps : ps.length ≤ v) :
    Calls Try.prog 38 #[.pointer (some ⟨b, 0, none⟩), .int .i64 rest] w (VisitPost w00 b q y z n pre (huntR q n H 0 pre rest v (ps.map (·.2)))) := by
  have ho := good_okPat hg hd hn1 hn12 (by omega)
  obtain ⟨la, ln, lc, rfl⟩ := hI.ls
  obtain ⟨fa, fn, fc, rfl⟩ := hI.fs
  have hlen : ln = pre.length := by obtain ⟨_, _, e⟩ := slice_of_own hI.list; injection e
  have HI := Lib.hid hI
  have c0 := hI.box.c0; have c1 := hI.box.c1; have c2 := hI.box.c2; have c3 := hI.box.c3; have c4 := hI.box.c4; have c5 := hI.box.c5; have c6 := hI.box.c6; have c19 := hI.box.c19; have c20 := hI.box.c20
  have f19 := hI.box.fz 19
  rw [hqn] at c0
  rw [hqH] at c2
  have Hlen := Lib.hid hlen; clear hlen
  have Hqn := Lib.hid hqn; have HqH := Lib.hid hqH
  clear hI hqn hqH
  obtain rfl : n = ln := by rw [Hlen.out, hd]
  by_cases hv0 : v = 20000
  · subst hv0
    have HR : Hid (huntR q n H 0 pre rest 20000 (ps.map (·.2)) = ⟨20001, ps.map (·.2)⟩) := Lib.hid (by unfold huntR huntF; rw [if_pos (by simp only []; omega)])
    go_enter Try.func38, Try.ntmps38
    go_wp2
    go_end0
    exact VisitPost.mk HR.out (HI.out.setV 20001) (hb0.setCell hbb _)
  · have hv1 : (v : Int) + 1 ≤ 20000 := by omega
    have KM : Hid (∀ (W : World) (_ : QAt W q y z) (_ : IntsAt W (.slice la n lc) pre), Calls Try.prog 34 #[.agg #[.int .i64 (n : Int), .int .i64 q.props, .int .i64 (H : Int), y, z, .bool q.canonical], .slice la n lc] W (Gives (.bool (matchB q pre)) W)) := Lib.hid (fun W hQ hL => by
      have h := matches_c q y z (.slice la n lc) pre W hQ hL ho
      rw [Hqn.out, HqH.out] at h
      exact h)
    cases hM : matchB q pre
    · have HR : Hid (huntR q n H 0 pre rest v (ps.map (·.2)) = ⟨v + 1, ps.map (·.2)⟩) := Lib.hid (by unfold huntR huntF; rw [if_neg (by simp only []; omega), if_neg (by rw [hM]; simp)])
      rw [hM] at KM
      go_enter Try.func38, Try.ntmps38
      go_wp2
      generalize hw1 : w.setCell ⟨b, 19, none⟩ (.int .i64 ((v : Int) + 1)) = w1 at *
      have HI1 : Hid (HInv w1 w00.heap.size b q y z (.slice la n lc) (.slice fa fn fc) ps pre (takenF n pre) (v + 1)) := Lib.hid (by rw [← hw1]; have := HI.out.setV (v + 1); simpa using this)
      have hb1 : Below w00.heap.size w00 w1 := by rw [← hw1]; exact hb0.setCell hbb _
      clear hw1 c0 c1 c2 c3 c4 c5 c6 c19 c20 f19
      have HC := Lib.hid (fun W (h : Below w1.heap.size w1 W) => HI1.out.below h)
      have HQ := Lib.hid (fun W (h : Below w1.heap.size w1 W) => hq.below (hb1.trans (h.mono hb1.size)))
      refine wp_region_held_drew (S := fun w' => Below w1.heap.size w1 w') (by kernel_rfl) (by exact (Below.refl _ _).drew) (fun hHeld => ?_)
      refine wpAnyH_take (i := 0) (oi := ⟨_, _, _, _, _, _⟩) (v := ?_) rfl (by kernel_rfl) (by kernel_rfl) (by kernel_rfl) (fun _ _ _ h => h) (Or.inl ⟨by rfl, ?_⟩) (by assumption) ?_; rotate_left; (focus (intro w hSw; (try dsimp only at hSw); go_simp; try with_reducible rfl)); (try simp only [Act.put, List.setIfInBounds_toArray, List.set_cons_zero, List.set_cons_succ])
      refine wpAnyH_take (i := 1) (oi := ⟨_, _, _, _, _, _⟩) (v := ?_) rfl (by kernel_rfl) (by kernel_rfl) (by kernel_rfl) (fun _ _ _ h => h) (Or.inl ⟨by rfl, ?_⟩) (by assumption) ?_; rotate_left; (focus (intro w hSw; (try dsimp only at hSw); go_simp; try with_reducible rfl)); (try simp only [Act.put, List.setIfInBounds_toArray, List.set_cons_zero, List.set_cons_succ])
      refine wpAnyH_take (i := 2) (oi := ⟨_, _, _, _, _, _⟩) (v := ?_) rfl (by kernel_rfl) (by kernel_rfl) (by kernel_rfl) (fun _ _ _ h => h) (Or.inl ⟨by rfl, ?_⟩) (by assumption) ?_; rotate_left; (focus (intro w hSw; (try dsimp only at hSw); go_simp; try with_reducible rfl)); (try simp only [Act.put, List.setIfInBounds_toArray, List.set_cons_zero, List.set_cons_succ])
      refine wpAnyH_take (i := 3) (oi := ⟨_, _, _, _, _, _⟩) (v := ?_) rfl (by kernel_rfl) (by kernel_rfl) (by kernel_rfl) (fun _ _ _ h => h) (Or.inl ⟨by rfl, ?_⟩) (by assumption) ?_; rotate_left; (focus (intro w hSw; (try dsimp only at hSw); have HH := (HC.out _ hSw).box; have t0 := HH.c0; have t1 := HH.c1; have t2 := HH.c2; rw [Hqn.out] at t0; rw [HqH.out] at t2; have t3 := HH.c3; have t4 := HH.c4; have t5 := HH.c5; have t6 := HH.c6; clear HH; go_simp; try with_reducible rfl)); (try simp only [Act.put, List.setIfInBounds_toArray, List.set_cons_zero, List.set_cons_succ])
      refine wpAnyH_take (i := 4) (oi := ⟨_, _, _, _, _, _⟩) (v := ?_) rfl (by kernel_rfl) (by kernel_rfl) (by kernel_rfl) (fun _ _ _ h => h) (Or.inl ⟨by rfl, ?_⟩) (by assumption) ?_; rotate_left; (focus (intro w hSw; (try dsimp only at hSw); go_simp; try with_reducible rfl)); (try simp only [Act.put, List.setIfInBounds_toArray, List.set_cons_zero, List.set_cons_succ])
      refine wpAnyH_take (i := 5) (oi := ⟨_, _, _, _, _, _⟩) (v := ?_) rfl (by kernel_rfl) (by kernel_rfl) (by kernel_rfl) (fun _ _ _ h => h) (Or.inl ⟨by rfl, ?_⟩) (by assumption) ?_; rotate_left; (focus (intro w hSw; (try dsimp only at hSw); go_simp; try with_reducible rfl)); (try simp only [Act.put, List.setIfInBounds_toArray, List.set_cons_zero, List.set_cons_succ])
      refine wpAnyH_take (i := 6) (oi := ⟨_, _, _, _, _, _⟩) (v := ?_) rfl (by kernel_rfl) (by kernel_rfl) (by kernel_rfl) (fun _ _ _ h => h) (Or.inl ⟨by rfl, ?_⟩) (by assumption) ?_; rotate_left; (focus (intro w hSw; (try dsimp only at hSw); go_simp; try with_reducible rfl)); (try simp only [Act.put, List.setIfInBounds_toArray, List.set_cons_zero, List.set_cons_succ])
      refine wpAnyH_take (i := 7) (oi := ⟨_, _, _, _, _, _⟩) (v := ?_) rfl (by kernel_rfl) (by kernel_rfl) (by kernel_rfl) (fun _ _ _ h => h) (Or.inl ⟨by rfl, ?_⟩) (by assumption) ?_; rotate_left; (focus (intro w hSw; (try dsimp only at hSw); have HH := (HC.out _ hSw).box; have t0 := HH.c0; have t1 := HH.c1; have t2 := HH.c2; rw [Hqn.out] at t0; rw [HqH.out] at t2; have t3 := HH.c3; have t4 := HH.c4; have t5 := HH.c5; have t6 := HH.c6; clear HH; go_simp; try with_reducible rfl)); (try simp only [Act.put, List.setIfInBounds_toArray, List.set_cons_zero, List.set_cons_succ])
      refine wpAnyH_ready (rs := [8]) (by kernel_rfl) (by simp) ?_
      refine AllReadyH.cons (o := ⟨_, _, _, _, _, _⟩) rfl (fun K hK => ?_) AllReadyH.nil
      go_simp
      go_at_call 34; (with_reducible refine (KM.out _ (HQ.out _ hHeld) (HC.out _ hHeld).list.at).mono ?_); rintro e x1 ⟨rfl, d1⟩; have hS' := bthen hHeld d1
      refine hK.out _ _ (by exact hS') (fun hHeld' => ?_)
      clear hHeld hK K
      have hHeld := hHeld'
      clear hHeld'
      try simp only [Act.put, List.setIfInBounds_toArray, List.set_cons_zero, List.set_cons_succ]
      refine wpAnyH_done (by kernel_rfl) ?_ _
      go_wp2
      go_end0
      exact VisitPost.mk HR.out (HC.out _ hHeld) (hb1.trans (hHeld.mono hb1.size))
    · have HR : Hid (huntR q n H 0 pre rest v (ps.map (·.2)) = ⟨v + 1, ps.map (·.2) ++ [pre]⟩) := Lib.hid (by unfold huntR huntF; rw [if_neg (by simp only []; omega), if_pos hM])
      rw [hM] at KM
      have hpl : pre.length ≤ 1048576 := by omega
      have KC := Lib.hid (fun W hL => copyNumbers_c (.slice la n lc) pre W hL hpl)
      go_enter Try.func38, Try.ntmps38
      go_wp2
      generalize hw1 : w.setCell ⟨b, 19, none⟩ (.int .i64 ((v : Int) + 1)) = w1 at *
      have HI1 : Hid (HInv w1 w00.heap.size b q y z (.slice la n lc) (.slice fa fn fc) ps pre (takenF n pre) (v + 1)) := Lib.hid (by rw [← hw1]; have := HI.out.setV (v + 1); simpa using this)
      have hb1 : Below w00.heap.size w00 w1 := by rw [← hw1]; exact hb0.setCell hbb _
      clear hw1 c0 c1 c2 c3 c4 c5 c6 c19 c20 f19
      have HC := Lib.hid (fun W (h : Below w1.heap.size w1 W) => HI1.out.below h)
      have HQ := Lib.hid (fun W (h : Below w1.heap.size w1 W) => hq.below (hb1.trans (h.mono hb1.size)))
      refine wp_region_held_drew (S := fun w' => Below w1.heap.size w1 w') (by kernel_rfl) (by exact (Below.refl _ _).drew) (fun hHeld => ?_)
      refine wpAnyH_take (i := 0) (oi := ⟨_, _, _, _, _, _⟩) (v := ?_) rfl (by kernel_rfl) (by kernel_rfl) (by kernel_rfl) (fun _ _ _ h => h) (Or.inl ⟨by rfl, ?_⟩) (by assumption) ?_; rotate_left; (focus (intro w hSw; (try dsimp only at hSw); go_simp; try with_reducible rfl)); (try simp only [Act.put, List.setIfInBounds_toArray, List.set_cons_zero, List.set_cons_succ])
      refine wpAnyH_take (i := 1) (oi := ⟨_, _, _, _, _, _⟩) (v := ?_) rfl (by kernel_rfl) (by kernel_rfl) (by kernel_rfl) (fun _ _ _ h => h) (Or.inl ⟨by rfl, ?_⟩) (by assumption) ?_; rotate_left; (focus (intro w hSw; (try dsimp only at hSw); go_simp; try with_reducible rfl)); (try simp only [Act.put, List.setIfInBounds_toArray, List.set_cons_zero, List.set_cons_succ])
      refine wpAnyH_take (i := 2) (oi := ⟨_, _, _, _, _, _⟩) (v := ?_) rfl (by kernel_rfl) (by kernel_rfl) (by kernel_rfl) (fun _ _ _ h => h) (Or.inl ⟨by rfl, ?_⟩) (by assumption) ?_; rotate_left; (focus (intro w hSw; (try dsimp only at hSw); go_simp; try with_reducible rfl)); (try simp only [Act.put, List.setIfInBounds_toArray, List.set_cons_zero, List.set_cons_succ])
      refine wpAnyH_take (i := 3) (oi := ⟨_, _, _, _, _, _⟩) (v := ?_) rfl (by kernel_rfl) (by kernel_rfl) (by kernel_rfl) (fun _ _ _ h => h) (Or.inl ⟨by rfl, ?_⟩) (by assumption) ?_; rotate_left; (focus (intro w hSw; (try dsimp only at hSw); have HH := (HC.out _ hSw).box; have t0 := HH.c0; have t1 := HH.c1; have t2 := HH.c2; rw [Hqn.out] at t0; rw [HqH.out] at t2; have t3 := HH.c3; have t4 := HH.c4; have t5 := HH.c5; have t6 := HH.c6; clear HH; go_simp; try with_reducible rfl)); (try simp only [Act.put, List.setIfInBounds_toArray, List.set_cons_zero, List.set_cons_succ])
      refine wpAnyH_take (i := 4) (oi := ⟨_, _, _, _, _, _⟩) (v := ?_) rfl (by kernel_rfl) (by kernel_rfl) (by kernel_rfl) (fun _ _ _ h => h) (Or.inl ⟨by rfl, ?_⟩) (by assumption) ?_; rotate_left; (focus (intro w hSw; (try dsimp only at hSw); go_simp; try with_reducible rfl)); (try simp only [Act.put, List.setIfInBounds_toArray, List.set_cons_zero, List.set_cons_succ])
      refine wpAnyH_take (i := 5) (oi := ⟨_, _, _, _, _, _⟩) (v := ?_) rfl (by kernel_rfl) (by kernel_rfl) (by kernel_rfl) (fun _ _ _ h => h) (Or.inl ⟨by rfl, ?_⟩) (by assumption) ?_; rotate_left; (focus (intro w hSw; (try dsimp only at hSw); go_simp; try with_reducible rfl)); (try simp only [Act.put, List.setIfInBounds_toArray, List.set_cons_zero, List.set_cons_succ])
      refine wpAnyH_take (i := 6) (oi := ⟨_, _, _, _, _, _⟩) (v := ?_) rfl (by kernel_rfl) (by kernel_rfl) (by kernel_rfl) (fun _ _ _ h => h) (Or.inl ⟨by rfl, ?_⟩) (by assumption) ?_; rotate_left; (focus (intro w hSw; (try dsimp only at hSw); go_simp; try with_reducible rfl)); (try simp only [Act.put, List.setIfInBounds_toArray, List.set_cons_zero, List.set_cons_succ])
      refine wpAnyH_take (i := 7) (oi := ⟨_, _, _, _, _, _⟩) (v := ?_) rfl (by kernel_rfl) (by kernel_rfl) (by kernel_rfl) (fun _ _ _ h => h) (Or.inl ⟨by rfl, ?_⟩) (by assumption) ?_; rotate_left; (focus (intro w hSw; (try dsimp only at hSw); have HH := (HC.out _ hSw).box; have t0 := HH.c0; have t1 := HH.c1; have t2 := HH.c2; rw [Hqn.out] at t0; rw [HqH.out] at t2; have t3 := HH.c3; have t4 := HH.c4; have t5 := HH.c5; have t6 := HH.c6; clear HH; go_simp; try with_reducible rfl)); (try simp only [Act.put, List.setIfInBounds_toArray, List.set_cons_zero, List.set_cons_succ])
      refine wpAnyH_ready (rs := [8]) (by kernel_rfl) (by simp) ?_
      refine AllReadyH.cons (o := ⟨_, _, _, _, _, _⟩) rfl (fun K hK => ?_) AllReadyH.nil
      go_simp
      go_at_call 34; (with_reducible refine (KM.out _ (HQ.out _ hHeld) (HC.out _ hHeld).list.at).mono ?_); rintro e x1 ⟨rfl, d1⟩; have hS' := bthen hHeld d1
      refine hK.out _ _ (by exact hS') (fun hHeld' => ?_)
      clear hHeld hK K
      have hHeld := hHeld'
      clear hHeld'
      try simp only [Act.put, List.setIfInBounds_toArray, List.set_cons_zero, List.set_cons_succ]
      refine wpAnyH_done (by kernel_rfl) ?_ _
      go_wp2
      obtain ⟨x2, hx2⟩ : ∃ x2, x2 = x1 := ⟨_, rfl⟩
      rw [← hx2] at hHeld ⊢
      clear hx2
      have HI2 := Lib.hid (HC.out _ hHeld)
      have hb2 : Below w00.heap.size w00 x2 := hb1.trans (hHeld.mono hb1.size)
      clear hHeld
      refine wp_region_dep (S := fun L w' => Till 14 (fun w' => HuntAt w' b q y z (.slice la n lc) (takenF n pre) (v + 1) (.slice fa fn fc)) L w') (by kernel_rfl) (by exact (fun _ => HI2.out.box.below (Below.refl _ _).drew)) (fun hHeld => ?_)
      refine wpAnyD_take (i := 0) (oi := ⟨_, _, _, _, _, _⟩) (v := ?_) rfl (by kernel_rfl) (by kernel_rfl) (by kernel_rfl) (fun _ _ _ h => h) (by intro L w'; (try dsimp only); repeat (first | exact Iff.rfl | exact Till.ins (by decide) _ _ _ | refine and_congr ?_ ?_)) [] (by kernel_rfl) (by kernel_rfl) (Or.inl ⟨by rfl, ?_⟩) (by assumption) (fun hHeld' => ?_); rotate_left; (focus (intro w _; go_simp; try with_reducible rfl)); clear hHeld; have hHeld := hHeld'; clear hHeld'; (try simp only [Act.put, List.setIfInBounds_toArray, List.set_cons_zero, List.set_cons_succ])
      refine wpAnyD_take (i := 1) (oi := ⟨_, _, _, _, _, _⟩) (v := ?_) rfl (by kernel_rfl) (by kernel_rfl) (by kernel_rfl) (fun _ _ _ h => h) (by intro L w'; (try dsimp only); repeat (first | exact Iff.rfl | exact Till.ins (by decide) _ _ _ | refine and_congr ?_ ?_)) [] (by kernel_rfl) (by kernel_rfl) (Or.inl ⟨by rfl, ?_⟩) (by assumption) (fun hHeld' => ?_); rotate_left; (focus (intro w _; go_simp; try with_reducible rfl)); clear hHeld; have hHeld := hHeld'; clear hHeld'; (try simp only [Act.put, List.setIfInBounds_toArray, List.set_cons_zero, List.set_cons_succ])
      refine wpAnyD_take (i := 2) (oi := ⟨_, _, _, _, _, _⟩) (v := ?_) rfl (by kernel_rfl) (by kernel_rfl) (by kernel_rfl) (fun _ _ _ h => h) (by intro L w'; (try dsimp only); repeat (first | exact Iff.rfl | exact Till.ins (by decide) _ _ _ | refine and_congr ?_ ?_)) [] (by kernel_rfl) (by kernel_rfl) (Or.inl ⟨by rfl, ?_⟩) (by assumption) (fun hHeld' => ?_); rotate_left; (focus (intro w _; go_simp; try with_reducible rfl)); clear hHeld; have hHeld := hHeld'; clear hHeld'; (try simp only [Act.put, List.setIfInBounds_toArray, List.set_cons_zero, List.set_cons_succ])
      refine wpAnyD_take (i := 3) (oi := ⟨_, _, _, _, _, _⟩) (v := ?_) rfl (by kernel_rfl) (by kernel_rfl) (by kernel_rfl) (fun _ _ _ h => h) (by intro L w'; (try dsimp only); repeat (first | exact Iff.rfl | exact Till.ins (by decide) _ _ _ | refine and_congr ?_ ?_)) [] (by kernel_rfl) (by kernel_rfl) (Or.inl ⟨by rfl, ?_⟩) (by assumption) (fun hHeld' => ?_); rotate_left; (focus (intro w _; go_simp; try with_reducible rfl)); clear hHeld; have hHeld := hHeld'; clear hHeld'; (try simp only [Act.put, List.setIfInBounds_toArray, List.set_cons_zero, List.set_cons_succ])
      refine wpAnyD_take (i := 4) (oi := ⟨_, _, _, _, _, _⟩) (v := ?_) rfl (by kernel_rfl) (by kernel_rfl) (by kernel_rfl) (fun _ _ _ h => h) (by intro L w'; (try dsimp only); repeat (first | exact Iff.rfl | exact Till.ins (by decide) _ _ _ | refine and_congr ?_ ?_)) [11, 12, 13, 14] (by kernel_rfl) (by kernel_rfl) (Or.inl ⟨by rfl, ?_⟩) (by assumption) (fun hHeld' => ?_); rotate_left; (focus (intro w hSw0; obtain ⟨L, ho, hSw⟩ := hSw0; (try dsimp only at hSw); have HH := Till.of hSw ho rfl; have t6 := HH.c6; have t20 := HH.c20; clear HH; clear ho hSw; go_simp; try with_reducible rfl)); clear hHeld; have hHeld := hHeld'; clear hHeld'; (try simp only [Act.put, List.setIfInBounds_toArray, List.set_cons_zero, List.set_cons_succ])
      refine wpAnyD_take (i := 5) (oi := ⟨_, _, _, _, _, _⟩) (v := ?_) rfl (by kernel_rfl) (by kernel_rfl) (by kernel_rfl) (fun _ _ _ h => h) (by intro L w'; (try dsimp only); repeat (first | exact Iff.rfl | exact Till.ins (by decide) _ _ _ | refine and_congr ?_ ?_)) [] (by kernel_rfl) (by kernel_rfl) (Or.inl ⟨by rfl, ?_⟩) (by assumption) (fun hHeld' => ?_); rotate_left; (focus (intro w _; go_simp; try with_reducible rfl)); clear hHeld; have hHeld := hHeld'; clear hHeld'; (try simp only [Act.put, List.setIfInBounds_toArray, List.set_cons_zero, List.set_cons_succ])
      refine wpAnyD_take (i := 6) (oi := ⟨_, _, _, _, _, _⟩) (v := ?_) rfl (by kernel_rfl) (by kernel_rfl) (by kernel_rfl) (fun _ _ _ h => h) (by intro L w'; (try dsimp only); repeat (first | exact Iff.rfl | exact Till.ins (by decide) _ _ _ | refine and_congr ?_ ?_)) [] (by kernel_rfl) (by kernel_rfl) (Or.inl ⟨by rfl, ?_⟩) (by assumption) (fun hHeld' => ?_); rotate_left; (focus (intro w _; go_simp; try with_reducible rfl)); clear hHeld; have hHeld := hHeld'; clear hHeld'; (try simp only [Act.put, List.setIfInBounds_toArray, List.set_cons_zero, List.set_cons_succ])
      refine wpAnyD_take (i := 7) (oi := ⟨_, _, _, _, _, _⟩) (v := ?_) rfl (by kernel_rfl) (by kernel_rfl) (by kernel_rfl) (fun _ _ _ h => h) (by intro L w'; (try dsimp only); repeat (first | exact Iff.rfl | exact Till.ins (by decide) _ _ _ | refine and_congr ?_ ?_)) [] (by kernel_rfl) (by kernel_rfl) (Or.inl ⟨by rfl, ?_⟩) (by assumption) (fun hHeld' => ?_); rotate_left; (focus (intro w _; go_simp; try with_reducible rfl)); clear hHeld; have hHeld := hHeld'; clear hHeld'; (try simp only [Act.put, List.setIfInBounds_toArray, List.set_cons_zero, List.set_cons_succ])
      refine wpAnyD_take (i := 8) (oi := ⟨_, _, _, _, _, _⟩) (v := ?_) rfl (by kernel_rfl) (by kernel_rfl) (by kernel_rfl) (fun _ _ _ h => h) (by intro L w'; (try dsimp only); repeat (first | exact Iff.rfl | exact Till.ins (by decide) _ _ _ | refine and_congr ?_ ?_)) [9, 12, 13, 14] (by kernel_rfl) (by kernel_rfl) (Or.inl ⟨by rfl, ?_⟩) (by assumption) (fun hHeld' => ?_); rotate_left; (focus (intro w hSw0; obtain ⟨L, ho, hSw⟩ := hSw0; (try dsimp only at hSw); have HH := Till.of hSw ho rfl; have t6 := HH.c6; have t20 := HH.c20; clear HH; clear ho hSw; go_simp; try with_reducible rfl)); clear hHeld; have hHeld := hHeld'; clear hHeld'; (try simp only [Act.put, List.setIfInBounds_toArray, List.set_cons_zero, List.set_cons_succ])
      refine wpAnyD_ready (rs := [9]) (by kernel_rfl) (by simp) ?_
      refine AllReadyD.cons (o := ⟨_, _, _, _, _, _⟩) rfl (fun K hK => ?_) AllReadyD.nil
      go_simp
      go_at_call 48; (with_reducible refine (KC.out _ (HI2.out.below (Below.refl _ _).drew).list.at).mono ?_); rintro e x3 ⟨a3, n3, c3, rfl, o3, d3⟩; have d3' := below_of_drew d3; have HO3 : Hid (OwnInts x3 x2.heap.size (.slice a3 n3 c3) pre) := Lib.hid o3; have HI3 := Lib.hid (HI2.out.below d3'); have hS' : ∀ L, Till 14 (fun w' => HuntAt w' b q y z (.slice la n lc) (takenF n pre) (v + 1) (.slice fa fn fc)) L x3 := fun _ _ => HI3.out.box; clear o3 d3
      refine hK.out _ _ (by first | exact hS' | exact hS' _) (fun hHeld' => ?_)
      clear hHeld hK K
      have hHeld := hHeld'
      clear hHeld'
      try simp only [Act.put, List.setIfInBounds_toArray, List.set_cons_zero, List.set_cons_succ]
      refine wpAnyD_ready (rs := [10]) (by kernel_rfl) (by simp) ?_
      refine AllReadyD.cons (o := ⟨_, _, _, _, _, _⟩) rfl (fun K hK => ?_) AllReadyD.nil
      go_simp
      refine hK.out _ _ (by exact (fun h => HuntAt.below (hHeld h) (go_below_alloc' _ _))) (fun hHeld' => ?_)
      clear hHeld hK K
      have hHeld := hHeld'
      clear hHeld'
      try simp only [Act.put, List.setIfInBounds_toArray, List.set_cons_zero, List.set_cons_succ]
      refine wpAnyD_ready (rs := [11]) (by kernel_rfl) (by simp) ?_
      refine AllReadyD.cons (o := ⟨_, _, _, _, _, _⟩) rfl (fun K hK => ?_) AllReadyD.nil
      refine step_app_intss rfl _ _ rfl w00.heap.size _ ps.length _ rfl (HI3.out.below (go_below_alloc' _ _)).row _ 1 1 [.slice a3 n3 c3] rfl (ints_reads _ _ _) (by intro u hu; simp at hu; subst hu; rfl) (by omega) (by have h1 := hb2.size; have h2 := d3'.size; simp; omega) ?_; intro a5 n5 c5 x5 ho5 hg5 hl5; have HX5 := Lib.hid ho5; have HG5 := Lib.hid hg5; have HL5 := Lib.hid hl5; have hS' : ∀ L, Till 14 (fun w' => HuntAt w' b q y z (.slice la n lc) (takenF n pre) (v + 1) (.slice fa fn fc)) L x5 := fun _ _ => HuntAt.grown (HI3.out.box.below (go_below_alloc' _ _)) hg5 HI3.out.foff; clear ho5 hg5 hl5
      refine hK.out _ _ (by first | exact hS' | exact hS' _) (fun hHeld' => ?_)
      clear hHeld hK K
      have hHeld := hHeld'
      clear hHeld'
      try simp only [Act.put, List.setIfInBounds_toArray, List.set_cons_zero, List.set_cons_succ]
      refine wpAnyD_take (i := 12) (oi := ⟨_, _, _, _, _, _⟩) (v := ?_) rfl (by kernel_rfl) (by kernel_rfl) (by kernel_rfl) (fun _ _ _ h => h) (by intro L w'; (try dsimp only); repeat (first | exact Iff.rfl | exact Till.ins (by decide) _ _ _ | refine and_congr ?_ ?_)) [] (by kernel_rfl) (by kernel_rfl) (Or.inl ⟨by rfl, ?_⟩) (by assumption) (fun hHeld' => ?_); rotate_left; (focus (intro w _; go_simp; try with_reducible rfl)); clear hHeld; have hHeld := hHeld'; clear hHeld'; (try simp only [Act.put, List.setIfInBounds_toArray, List.set_cons_zero, List.set_cons_succ])
      refine wpAnyD_take (i := 13) (oi := ⟨_, _, _, _, _, _⟩) (v := ?_) rfl (by kernel_rfl) (by kernel_rfl) (by kernel_rfl) (fun _ _ _ h => h) (by intro L w'; (try dsimp only); repeat (first | exact Iff.rfl | exact Till.ins (by decide) _ _ _ | refine and_congr ?_ ?_)) [] (by kernel_rfl) (by kernel_rfl) (Or.inl ⟨by rfl, ?_⟩) (by assumption) (fun hHeld' => ?_); rotate_left; (focus (intro w _; go_simp; try with_reducible rfl)); clear hHeld; have hHeld := hHeld'; clear hHeld'; (try simp only [Act.put, List.setIfInBounds_toArray, List.set_cons_zero, List.set_cons_succ])
      refine wpAnyD_ready (rs := [14]) (by kernel_rfl) (by simp) ?_
      refine AllReadyD.cons (o := ⟨_, _, _, _, _, _⟩) rfl (fun K hK => ?_) AllReadyD.nil
      have g20 := (hHeld rfl).c20; have gf := (hHeld rfl).fz 20
      go_simp
      refine hK.out _ _ (by exact (fun h => absurd h (by decide))) (fun hHeld' => ?_)
      clear hHeld hK K
      have hHeld := hHeld'
      clear hHeld'
      try simp only [Act.put, List.setIfInBounds_toArray, List.set_cons_zero, List.set_cons_succ]
      refine wpAnyD_done (by kernel_rfl) ?_ _
      have HI5 := Lib.hid (HInv.push HI2.out d3' (by have := hb2.size; exact this) HO3.out ⟨_, _, _, rfl⟩ (go_below_alloc' _ _) HX5.out HG5.out HL5.out ⟨_, _, _, rfl⟩)
      go_wp2
      go_end0
      exact VisitPost.mk (by rw [HR.out]; simp) HI5.out ((((hb2.trans (d3'.mono hb2.size)).alloc (by have := hb2.size; have := d3'.size; omega) _).grown HG5.out (by have := hb2.size; have := d3'.size; simp; omega) (fun g hg => (HI2.out.row.lt g hg).1)).setCell hbb _)
def VisitSpec (q : Query) (y z : Value) (n H : Nat) (w00 : World) (b d : Nat) : Prop := ∀ (pre : List Int) (rest left : Int) (w : World) (lv fv : Value) (ps : List (Value × List Int)) (v : Nat), pre.length + d = n → Good q n pre left → HInv w w00.heap.size b q y z lv fv ps pre (takenF n pre) v → Below w00.heap.size w00 w →
  v ≤ 20000 → ps.length ≤ v → -15 ≤ rest → rest ≤ 180 → Calls Try.prog 38 #[.pointer (some ⟨b, 0, none⟩), .int .i64 rest] w (VisitPost w00 b q y z n pre (huntR q n H d pre rest v (ps.map (·.2))))
def stepR (q : Query) (n H d : Nat) (pre : List Int) (rest : Int) (s : HSt) (t : Nat) : HSt := if 20000 < s.v then s else if frB q n pre t = true then huntF (matchB q) (frB q n) H d (pre ++ [(t : Int)]) (rest - t) s else s
theorem stuckR (q : Query) (n H d : Nat) (pre : List Int) (rest : Int) : ∀ (ts : List Nat) (s : HSt), 20000 < s.v → ts.foldl (stepR q n H d pre rest) s = s
  | [], _, _ => rfl
  | t :: ts, s, h => by
    have e : stepR q n H d pre rest s t = s := by unfold stepR; rw [if_pos h]
    rw [List.foldl_cons, e]; exact stuckR q n H d pre rest ts s h
theorem huntR_succ {q : Query} {n H d : Nat} {pre : List Int} {rest : Int} {v : Nat} {F : List (List Int)} (hv : v + 1 ≤ 20000) (h0 : 0 ≤ rest) (h1 : rest ≤ (H : Int) * ((d + 1 : Nat) : Int)) :
    huntR q n H (d + 1) pre rest v F = (List.range' 0 (H + 1 - 0)).foldl (stepR q n H d pre rest) ⟨v + 1, F⟩ := by
  unfold huntR huntF
  rw [if_neg (by simp only []; omega), if_neg (by omega), ← List.range_eq_range']
  rfl
theorem taken_snoc {n : Nat} {pre : List Int} {t r : Nat} (hr : r = (pre.length + t) % n) : (fun j => if j = r then true else takenF n pre j) = takenF n (pre ++ [(t : Int)]) := by
  funext j
  unfold takenF
  rw [landN_snoc, ← hr]
  by_cases e : j = r <;> simp [e]
theorem taken_back {n : Nat} {pre : List Int} {t r : Nat} (hr : r = (pre.length + t) % n) (hf : takenF n pre r = false) : (fun j => if j = r then false else takenF n (pre ++ [(t : Int)]) j) = takenF n pre := by
  funext j
  by_cases e : j = r
  · subst e; simp [hf]
  · simp only [if_neg e]
    unfold takenF
    rw [landN_snoc, ← hr]
    simp [e]
theorem frB_of {q : Query} {n : Nat} {pre : List Int} {t r : Nat} (hr : r = (pre.length + t) % n) : frB q n pre t = (!(takenF n pre r) && !(hasB q.avoid (t : Int))) := by
  unfold frB takenF; rw [hr]
theorem hunt_len {M : List Int → Bool} {fr : List Int → Nat → Bool} {H : Nat} : ∀ (d : Nat) (pre : List Int) (rest : Int) (s : HSt), s.f.length ≤ s.v → (huntF M fr H d pre rest s).f.length ≤ (huntF M fr H d pre rest s).v
  | 0, pre, rest, s, h => by
    unfold huntF
    split
    · simp only []; omega
    · split
      · simp only [List.length_append, List.length_singleton]; omega
      · simp only []; omega
  | d + 1, pre, rest, s, h => by
    unfold huntF
    split
    · simp only []; omega
    · split
      · simp only []; omega
      · refine foldl_inv _ (fun s : HSt => s.f.length ≤ s.v) (fun s t hs => ?_) _ _ (by simp only []; omega)
        split
        · exact hs
        · split
          · exact hunt_len d _ _ s hs
          · exact hs
end Go.Proofs.Ytoaegfoapkmdnaa
