import Derived.Test.YthdejhningghcaaMg47
import Derived.Deep.OwnRows
/- PrF: the prime patterns of the package impl: all of a period, counted, the longest. -/
namespace Go.Proofs.Ythdejhningghcaa
open Go.ChangeShapes Go.WideShapes Go.ChangeAt Go.RowKit

set_option maxRecDepth 100000 in
theorem primesLess : LessQ 30 := by
  intro blk c B size W V M hs hc i j hi hj
  obtain ⟨ci, ii⟩ := hc i hi
  obtain ⟨cj, ij⟩ := hc j hj
  clear hc
  generalize hvi : V i = vi at *
  generalize hvj : V j = vj at *
  obtain ⟨ia, im, ic⟩ := vi
  obtain ⟨ja, jm, jc⟩ := vj
  have ci : W.cell? ⟨blk, i, none⟩ = some (.slice ia im ic) := ci
  have cj : W.cell? ⟨blk, j, none⟩ = some (.slice ja jm jc) := cj
  have II := Lib.hid (show IntsAt W (.slice ia im ic) (M i) from ii)
  have IJ := Lib.hid (show IntsAt W (.slice ja jm jc) (M j) from ij)
  have HC1 := Lib.hid hs
  have HC2 := Lib.hid ci
  have HC3 := Lib.hid cj
  clear ii ij hvi hvj
  go_enter Try.func30, Try.ntmps30
  go_wp2
  refine wp_region_held_drew (S := fun w' => Below W.heap.size W w') (by kernel_rfl) (by exact ((Below.refl W.heap.size W)).drew) (fun hHeld => ?_)
  refine wpAnyH_take (i := 0) (oi := ⟨_, _, _, _, _, _⟩) (v := ?_) rfl (by kernel_rfl) (by kernel_rfl) (by kernel_rfl) (fun _ _ _ h => h) (Or.inl ⟨by rfl, ?_⟩) (by assumption) ?_; rotate_left; (focus (intro w hSw; (try dsimp only at hSw); have t1 := cell_then (World.block_lt_of_cell? _ _ HC1.out) HC1.out hSw; have t2 := cell_then (World.block_lt_of_cell? _ _ HC2.out) HC2.out hSw; have t3 := cell_then (World.block_lt_of_cell? _ _ HC3.out) HC3.out hSw; go_simp; try with_reducible rfl)); (try simp only [Act.put, List.setIfInBounds_toArray, List.set_cons_zero, List.set_cons_succ])
  refine wpAnyH_take (i := 1) (oi := ⟨_, _, _, _, _, _⟩) (v := ?_) rfl (by kernel_rfl) (by kernel_rfl) (by kernel_rfl) (fun _ _ _ h => h) (Or.inl ⟨by rfl, ?_⟩) (by assumption) ?_; rotate_left; (focus (intro w hSw; (try dsimp only at hSw); go_simp; try with_reducible rfl)); (try simp only [Act.put, List.setIfInBounds_toArray, List.set_cons_zero, List.set_cons_succ])
  refine wpAnyH_take (i := 2) (oi := ⟨_, _, _, _, _, _⟩) (v := ?_) rfl (by kernel_rfl) (by kernel_rfl) (by kernel_rfl) (fun _ _ _ h => h) (Or.inl ⟨by rfl, ?_⟩) (by assumption) ?_; rotate_left; (focus (intro w hSw; (try dsimp only at hSw); go_simp; try with_reducible rfl)); (try simp only [Act.put, List.setIfInBounds_toArray, List.set_cons_zero, List.set_cons_succ])
  refine wpAnyH_take (i := 3) (oi := ⟨_, _, _, _, _, _⟩) (v := ?_) rfl (by kernel_rfl) (by kernel_rfl) (by kernel_rfl) (fun _ _ _ h => h) (Or.inl ⟨by rfl, ?_⟩) (by assumption) ?_; rotate_left; (focus (intro w hSw; (try dsimp only at hSw); have t1 := cell_then (World.block_lt_of_cell? _ _ HC1.out) HC1.out hSw; have t2 := cell_then (World.block_lt_of_cell? _ _ HC2.out) HC2.out hSw; have t3 := cell_then (World.block_lt_of_cell? _ _ HC3.out) HC3.out hSw; go_simp; try with_reducible rfl)); (try simp only [Act.put, List.setIfInBounds_toArray, List.set_cons_zero, List.set_cons_succ])
  refine wpAnyH_take (i := 4) (oi := ⟨_, _, _, _, _, _⟩) (v := ?_) rfl (by kernel_rfl) (by kernel_rfl) (by kernel_rfl) (fun _ _ _ h => h) (Or.inl ⟨by rfl, ?_⟩) (by assumption) ?_; rotate_left; (focus (intro w hSw; (try dsimp only at hSw); have t1 := cell_then (World.block_lt_of_cell? _ _ HC1.out) HC1.out hSw; have t2 := cell_then (World.block_lt_of_cell? _ _ HC2.out) HC2.out hSw; have t3 := cell_then (World.block_lt_of_cell? _ _ HC3.out) HC3.out hSw; go_simp; try with_reducible rfl)); (try simp only [Act.put, List.setIfInBounds_toArray, List.set_cons_zero, List.set_cons_succ])
  refine wpAnyH_take (i := 5) (oi := ⟨_, _, _, _, _, _⟩) (v := ?_) rfl (by kernel_rfl) (by kernel_rfl) (by kernel_rfl) (fun _ _ _ h => h) (Or.inl ⟨by rfl, ?_⟩) (by assumption) ?_; rotate_left; (focus (intro w hSw; (try dsimp only at hSw); go_simp; try with_reducible rfl)); (try simp only [Act.put, List.setIfInBounds_toArray, List.set_cons_zero, List.set_cons_succ])
  refine wpAnyH_take (i := 6) (oi := ⟨_, _, _, _, _, _⟩) (v := ?_) rfl (by kernel_rfl) (by kernel_rfl) (by kernel_rfl) (fun _ _ _ h => h) (Or.inl ⟨by rfl, ?_⟩) (by assumption) ?_; rotate_left; (focus (intro w hSw; (try dsimp only at hSw); go_simp; try with_reducible rfl)); (try simp only [Act.put, List.setIfInBounds_toArray, List.set_cons_zero, List.set_cons_succ])
  refine wpAnyH_take (i := 7) (oi := ⟨_, _, _, _, _, _⟩) (v := ?_) rfl (by kernel_rfl) (by kernel_rfl) (by kernel_rfl) (fun _ _ _ h => h) (Or.inl ⟨by rfl, ?_⟩) (by assumption) ?_; rotate_left; (focus (intro w hSw; (try dsimp only at hSw); have t1 := cell_then (World.block_lt_of_cell? _ _ HC1.out) HC1.out hSw; have t2 := cell_then (World.block_lt_of_cell? _ _ HC2.out) HC2.out hSw; have t3 := cell_then (World.block_lt_of_cell? _ _ HC3.out) HC3.out hSw; go_simp; try with_reducible rfl)); (try simp only [Act.put, List.setIfInBounds_toArray, List.set_cons_zero, List.set_cons_succ])
  refine wpAnyH_ready (rs := [8]) (by kernel_rfl) (by simp) ?_
  refine AllReadyH.cons (o := ⟨_, _, _, _, _, _⟩) rfl (fun K hK => ?_) AllReadyH.nil
  go_simp
  go_at_call 31; refine (comparePatterns_c _ _ (M i) (M j) _ (II.out.below hHeld) (IJ.out.below hHeld)).mono ?_; rintro e x1 ⟨rfl, d1⟩; have hS' := bthen hHeld d1
  refine hK.out _ _ (by exact hS') (fun hHeld' => ?_)
  clear hHeld hK K
  have hHeld := hHeld'
  clear hHeld'
  try simp only [Act.put, List.setIfInBounds_toArray, List.set_cons_zero, List.set_cons_succ]
  refine wpAnyH_take (i := 9) (oi := ⟨_, _, _, _, _, _⟩) (v := ?_) rfl (by kernel_rfl) (by kernel_rfl) (by kernel_rfl) (fun _ _ _ h => h) (Or.inl ⟨by rfl, ?_⟩) (by assumption) ?_; rotate_left; (focus (intro w hSw; (try dsimp only at hSw); go_simp; try with_reducible rfl)); (try simp only [Act.put, List.setIfInBounds_toArray, List.set_cons_zero, List.set_cons_succ])
  refine wpAnyH_take (i := 10) (oi := ⟨_, _, _, _, _, _⟩) (v := ?_) rfl (by kernel_rfl) (by kernel_rfl) (by kernel_rfl) (fun _ _ _ h => h) (Or.inl ⟨by rfl, ?_⟩) (by assumption) ?_; rotate_left; (focus (intro w hSw; (try dsimp only at hSw); go_simp; try with_reducible rfl)); (try simp only [Act.put, List.setIfInBounds_toArray, List.set_cons_zero, List.set_cons_succ])
  refine wpAnyH_done (by kernel_rfl) ?_ _
  go_wp2
  go_ret
  exact ⟨rfl, hHeld⟩
theorem boolInfoP : (Try.prog.info? 4).map (fun i => (i.zero, i.size, i.bytes)) = some (some (.bool false), 1, 1) := by kernel_rfl
set_option maxHeartbeats 1000000 in
theorem eachPattern_c (KB OB N P H : Nat) (fv : Value) (w : World) (hP1 : 1 ≤ P) (hP : P ≤ 6) (hH : H ≤ 7) (hN : N ≤ 7) (hfs : ∃ a n c, fv = .slice a n c) (hob : BoxIs w OB [fv]) (hrow : RowP w KB fv []) (hfar : ∀ g, RowBlk fv [] g → g ≠ OB) (hK : KB ≤ OB) :
    Calls Try.prog 24 #[.int .i64 N, .int .i64 P, .int .i64 H, .func (.func 25) #[] #[.pointer (some ⟨OB, 0, none⟩)]] w fun e w' => e = .returned (.tuple #[]) ∧ ∃ (fv' : Value) (ps' : List (Value × List Int)), BoxIs w' OB [fv'] ∧ (∃ a n c, fv' = .slice a n c) ∧ RowP w' KB fv' ps' ∧ (∀ g, RowBlk fv' ps' g → g ≠ OB) ∧ ps'.map (·.2) = implL N H P ∧ Below KB w w' := by
  have hm : N * P ≤ 42 := Nat.le_trans (Nat.mul_le_mul hN hP) (by decide)
  have HStep := Lib.hid (step_c KB w.heap.size.succ w.heap.size OB P H hP1 hP hH P)
  have hOl := hob.1
  have hwm : IntKind.i64.wrap ((N : Int) * (P : Int)) = ((N * P : Nat) : Int) := by rw [← Int.natCast_mul, IntWalk.i64_in _ (by omega)]
  have hmk := run_make_row' (P := Try.prog) 54 4 (.bool false) 1 Try.underlying54 boolInfoP rfl .i64 .i64 P (by omega) (by omega)
  have HSI : Hid (SInv ((w.alloc (.cells (madeCells #[.bool false] P) 4)).alloc (.cells #[.int .i64 P, .int .i64 H, .slice none 0 0, .slice (some ⟨w.heap.size, 0, none⟩) P P, (.func (.func 25) #[] #[.pointer (some ⟨OB, 0, none⟩)])] 56)) KB w.heap.size.succ w.heap.size OB P H (.slice none 0 0) (.func (.func 25) #[] #[.pointer (some ⟨OB, 0, none⟩)]) fv [] [] (takenB P [])) := Lib.hid (by
    have hr := World.rowIs_made w (.bool false) P 4
    have hbx := BoxIs.new' (w := w.alloc (.cells (madeCells #[.bool false] P) 4)) (b := w.heap.size.succ) (by simp) [.int .i64 P, .int .i64 H, .slice none 0 0, .slice (some ⟨w.heap.size, 0, none⟩) P P, (.func (.func 25) #[] #[.pointer (some ⟨OB, 0, none⟩)])] 56
    have hb1 : Below w.heap.size w ((w.alloc (.cells (madeCells #[.bool false] P) 4)).alloc (.cells #[.int .i64 P, .int .i64 H, .slice none 0 0, .slice (some ⟨w.heap.size, 0, none⟩) P P, (.func (.func 25) #[] #[.pointer (some ⟨OB, 0, none⟩)])] 56)) := by go_grown
    have hb2 : Below (w.alloc (.cells (madeCells #[.bool false] P) 4)).heap.size (w.alloc (.cells (madeCells #[.bool false] P) 4)) ((w.alloc (.cells (madeCells #[.bool false] P) 4)).alloc (.cells #[.int .i64 P, .int .i64 H, .slice none 0 0, .slice (some ⟨w.heap.size, 0, none⟩) P P, (.func (.func 25) #[] #[.pointer (some ⟨OB, 0, none⟩)])] 56)) := by go_grown
    have hlt : w.heap.size < (w.alloc (.cells (madeCells #[.bool false] P) 4)).heap.size := by simp
    refine ⟨⟨hbx.1, hbx.2.1 0, hbx.2.1 1, hbx.2.1 2, hbx.2.1 3, hbx.2.1 4, hbx.2.2, Nat.lt_of_lt_of_le hlt hb2.size, fun j hj => ?_, fun j => ?_, by omega⟩, ⟨_, _, _, rfl⟩, World.ownsRow_nil _ _ _ _, by simp [Value.ownBlock], by simp [Value.ownBlock], by simp [Value.ownBlock], hob.below hb1, hfs, hrow.below hb1, fun g hg => ⟨?_, ?_, hfar g hg, by simp [Value.ownBlock]⟩, by omega, by omega, ⟨by omega, by omega, hK⟩⟩
    · exact cell_then hlt (hr.cell hj) hb2
    · exact (hb2.frozen (p := ⟨w.heap.size, j, none⟩) hlt).trans (hr.frozen j)
    · have := (hrow.lt hg).2; omega
    · have := (hrow.lt hg).2; omega)
  have hKw : KB ≤ w.heap.size := by omega
  have HStep2 := Lib.hid (HStep.out [] (N * P) _ _ fv [] (by simp) (fun x hx => absurd hx List.not_mem_nil) (by simp [lndN]) (by omega) HSI.out (by have h : 8 ^ P ≤ 8 ^ 6 := Nat.pow_le_pow_right (by decide) hP; simp; omega))
  have HI : Hid (implL N H P = (eachF H P P [] (N * P)).filter implT) := Lib.hid rfl
  have hb9 : Below KB w ((w.alloc (.cells (madeCells #[.bool false] P) 4)).alloc (.cells #[.int .i64 P, .int .i64 H, .slice none 0 0, .slice (some ⟨w.heap.size, 0, none⟩) P P, (.func (.func 25) #[] #[.pointer (some ⟨OB, 0, none⟩)])] 56)) := (((Below.refl _ _).alloc hKw _).alloc (by simp; omega) _)
  clear HStep HSI hob hrow hfar hfs
  generalize eachF H P P [] (N * P) = EE at *
  generalize implL N H P = IL at *
  go_enter Try.func24, Try.ntmps24
  go_wp2_with fail
  refine HStep2.out.mono ?_
  rintro e w2 ⟨rfl, lv', fv', ps', hI, hps, hb⟩
  have HBx := Lib.hid hI.ob
  have HRow := Lib.hid hI.row
  have HFs := Lib.hid hI.fs
  have HFar := Lib.hid hI.far
  have HPs : Hid (ps'.map (·.2) = IL) := Lib.hid (by rw [hps, HI.out]; rfl)
  have hb0 := hb9.trans hb
  clear hI hps hb hb9 HStep2
  go_wp2
  (try simp only [Exit.inBlock, Exit.then])
  refine bodyPost_end (results_none rfl _ _ _) rfl ?_
  exact ⟨rfl, fv', ps', HBx.out, HFs.out, HRow.out, fun g hg => (HFar.out g hg).2.2.1, HPs.out, hb0⟩
set_option maxHeartbeats 1000000 in
theorem primesOf_c (N P H : Nat) (w : World) (hP1 : 1 ≤ P) (hP : P ≤ 6) (hH : H ≤ 7) (hN : N ≤ 7) : Calls Try.prog 17 #[.int .i64 N, .int .i64 H, .int .i64 P] w fun e w' => ∃ a n c, e = .returned (.slice a n c) ∧ OwnIntss w' w.heap.size (.slice a n c) (implL N H P) ∧ Below w.heap.size w w' := by
  have hEach := fun (W : World) (fv : Value) x1 x2 x3 x4 => eachPattern_c w.heap.size (w.heap.size + 1) N P H fv W hP1 hP hH hN x1 x2 x3 x4 (by omega)
  have HEach := Lib.hid hEach
  have HSA := Lib.hid (impl_sa N H P)
  have HLn : Hid ((implL N H P).length ≤ 300000) := Lib.hid (by
    have h1 := each_len hH P P [] (N * P)
    have h2 := List.length_filter_le implT (eachF H P P [] (N * P))
    have h3 : 8 ^ P ≤ 8 ^ 6 := Nat.pow_le_pow_right (by decide) hP
    show ((eachF H P P [] (N * P)).filter implT).length ≤ 300000
    omega)
  have HR0 : Hid (RowP ((w.alloc (.cells #[] 35)).alloc (.cells #[.slice (some ⟨w.heap.size, 0, none⟩) 0 0] 22)) w.heap.size (.slice (some ⟨w.heap.size, 0, none⟩) 0 0) []) := Lib.hid ((rowP_empty w).below (below_allocP _ _))
  have HB0 := Lib.hid (BoxIs.new' (w := w.alloc (.cells #[] 35)) (b := w.heap.size + 1) (by simp) [.slice (some ⟨w.heap.size, 0, none⟩) 0 0] 22)
  have hb0 : Below w.heap.size w ((w.alloc (.cells #[] 35)).alloc (.cells #[.slice (some ⟨w.heap.size, 0, none⟩) 0 0] 22)) := by go_grown
  clear hEach
  generalize implL N H P = IL at *
  go_enter Try.func17, Try.ntmps17
  go_wp2_with fail
  refine (HEach.out _ (.slice (some ⟨w.heap.size, 0, none⟩) 0 0) ⟨_, _, _, rfl⟩ HB0.out HR0.out (fun g hg => by
    rcases hg with h | ⟨q, hq, _⟩
    · injection h with h
      have h : w.heap.size = g := h
      omega
    · exact absurd hq List.not_mem_nil)).mono ?_
  rintro e w2 ⟨rfl, fv', ps', hbx, ⟨fa, fn, fc, rfl⟩, hrow, hfar, hps, hb⟩
  have hb2 : Below w.heap.size w w2 := hb0.trans hb
  have HBx := Lib.hid hbx
  have HRow := Lib.hid hrow
  have HFar := Lib.hid hfar
  have HPs := Lib.hid hps
  have hfn := hrow.len
  have hfn2 : fn ≤ 1000000 := by
    have h1 := congrArg List.length hps
    rw [List.length_map] at h1
    have := HLn.out
    omega
  have c0 : w2.cell? ⟨w.heap.size + 1, 0, none⟩ = some (.slice fa fn fc) := hbx.2.1 0
  clear hbx hrow hfar hps hb HEach HB0 HR0 hb0 hfn
  have HSt := Lib.hid (stableLists_c 30 (enters_of Try.func30 (by kernel_rfl) rfl) primesLess fa fn fc (w.heap.size + 1) w.heap.size ps' w2 HRow.out (by rw [HPs.out]; exact HSA.out) HBx.out HFar.out hfn2)
  go_wp2_with fail
  refine HSt.out.mono ?_
  rintro e w3 ⟨rfl, hrow3, hg3⟩
  have HR3 := Lib.hid hrow3
  have hbk : w3.heap[w.heap.size + 1]? = w2.heap[w.heap.size + 1]? := hg3.block _ HBx.out.1 (fun e => by
    cases fa with
    | none => exact absurd e (by simp)
    | some x =>
      have e : some (w.heap.size + 1) = some x.block := e
      injection e with e
      have h1 : RowBlk (.slice (some x) fn fc) ps' x.block := .inl (by
        rcases HRow.out.1.2 with ⟨e2, _⟩ | ⟨g, cap, cur, e2, _⟩
        · cases e2
        · injection e2 with e3; injection e3 with e3; rw [e3]; rfl)
      exact HFar.out _ h1 e.symm)
  have c0' : w3.cell? ⟨w.heap.size + 1, 0, none⟩ = some (.slice fa fn fc) := (World.cell?_of_block (a := ⟨w.heap.size + 1, 0, none⟩) hbk).trans c0
  have hb3 : Below w.heap.size w w3 := hb2.grown hg3 hb2.size (fun g hg => by
    cases fa with
    | none => simp at hg
    | some x =>
      rcases HRow.out.1.2 with ⟨e2, _⟩ | ⟨g', cap, cur, e2, hbg, _⟩
      · cases e2
      · injection e2 with e3; injection e3 with e3
        subst e3
        have hg : some g' = some g := hg
        injection hg with hg
        omega)
  clear hrow3 hg3 hbk c0 HSt HRow HBx HFar hb2
  go_wp2
  go_ret
  exact ⟨fa, fn, fc, rfl, by rw [← HPs.out]; exact HR3.out.own, hb3⟩
end Go.Proofs.Ythdejhningghcaa
