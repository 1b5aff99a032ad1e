import Derived.Test.YthdejhningghcaaMg36
/- PrI: the search for prime patterns of the package spec, walked. -/
namespace Go.Proofs.Ythdejhningghcaa
open Go.ChangeShapes Go.WideShapes Go.ChangeAt Go.RowKit

/-- What is kept beside the search's struct and the rows that it has seen and thrown. -/
structure WKeep (B : Nat) (sv tv sv' tv' : Value) (w w' : World) : Prop where
  os : w'.os = w.os
  tape : w'.tape = w.tape
  output : w'.output = w.output
  size : w.heap.size ≤ w'.heap.size
  block : ∀ g, g < w.heap.size → g ≠ B → sv.ownBlock ≠ some g → tv.ownBlock ≠ some g → w'.heap[g]? = w.heap[g]?
  s : ∀ g, sv'.ownBlock = some g → sv.ownBlock = some g ∨ w.heap.size ≤ g
  t : ∀ g, tv'.ownBlock = some g → tv.ownBlock = some g ∨ w.heap.size ≤ g
section
variable {B : Nat} {sv tv sv' tv' sv2 tv2 : Value} {w w1 w2 : World}
theorem WKeep.trans (h : WKeep B sv tv sv' tv' w w1) (k : WKeep B sv' tv' sv2 tv2 w1 w2) : WKeep B sv tv sv2 tv2 w w2 :=
  ⟨k.os.trans h.os, k.tape.trans h.tape, k.output.trans h.output, Nat.le_trans h.size k.size, fun g hg h1 h2 h3 => (k.block g (Nat.lt_of_lt_of_le hg h.size) h1 (fun e => by
    rcases h.s g e with e | e
    · exact h2 e
    · omega) (fun e => by
    rcases h.t g e with e | e
    · exact h3 e
    · omega)).trans (h.block g hg h1 h2 h3), fun g hg => by
    rcases k.s g hg with e | e
    · exact h.s g e
    · exact .inr (Nat.le_trans h.size e), fun g hg => by
    rcases k.t g hg with e | e
    · exact h.t g e
    · exact .inr (Nat.le_trans h.size e)⟩
theorem WKeep.of_below (hb : Below w.heap.size w w1) : WKeep B sv tv sv tv w w1 := ⟨hb.os, hb.tape, hb.output, hb.size, fun g hg _ _ _ => hb.block g hg, fun _ h => .inl h, fun _ h => .inl h⟩
theorem WKeep.below {K : Nat} (h : WKeep B sv tv sv' tv' w w1) (hK : K ≤ w.heap.size) (hB : K ≤ B) (hs : ∀ g, sv.ownBlock = some g → K ≤ g) (ht : ∀ g, tv.ownBlock = some g → K ≤ g) : Below K w w1 :=
  ⟨h.os, h.tape, h.output, h.size, fun g hg => h.block g (by omega) (by omega) (fun e => by have := hs g e; omega) (fun e => by have := ht g e; omega)⟩
theorem WKeep.pushS (hg : w.grownBy w1 sv.ownBlock) (hloc : sv'.ownBlock = sv.ownBlock ∨ sv'.ownBlock = some w.heap.size) (i : Nat) (u : Value) : WKeep B sv tv sv' tv w (w1.setCell ⟨B, i, none⟩ u) :=
  ⟨hg.os, hg.tape, hg.output, by simpa [World.setCell] using hg.size, fun g hgs h1 h2 _ => (Below.heap_setCell w1 ⟨B, i, none⟩ u g h1).trans (hg.block g hgs (fun e => h2 e.symm)), fun g hg' => by
    rcases hloc with e | e
    · exact .inl (by rw [← e]; exact hg')
    · rw [e] at hg'; injection hg' with hg'; exact .inr (by omega), fun _ h => .inl h⟩
theorem WKeep.pushT (hg : w.grownBy w1 tv.ownBlock) (hloc : tv'.ownBlock = tv.ownBlock ∨ tv'.ownBlock = some w.heap.size) (i : Nat) (u : Value) : WKeep B sv tv sv tv' w (w1.setCell ⟨B, i, none⟩ u) :=
  ⟨hg.os, hg.tape, hg.output, by simpa [World.setCell] using hg.size, fun g hgs h1 _ h3 => (Below.heap_setCell w1 ⟨B, i, none⟩ u g h1).trans (hg.block g hgs (fun e => h3 e.symm)), fun _ h => .inl h, fun g hg' => by
    rcases hloc with e | e
    · exact .inl (by rw [← e]; exact hg')
    · rw [e] at hg'; injection hg' with hg'; exact .inr (by omega)⟩
theorem WKeep.pop (hs : ∀ g, sv'.ownBlock = some g → sv.ownBlock = some g) (ht : ∀ g, tv'.ownBlock = some g → tv.ownBlock = some g) (i : Nat) (u : Value) : WKeep B sv tv sv' tv' w (w.setCell ⟨B, i, none⟩ u) :=
  ⟨rfl, rfl, rfl, by simp [World.setCell], fun g _ h1 _ _ => Below.heap_setCell w ⟨B, i, none⟩ u g h1, fun g h => .inl (hs g h), fun g h => .inl (ht g h)⟩
end
/-- A struct's block apart from the search's. -/
def BoxFar (w : World) (g : Nat) (l : List Value) (B : Nat) (sv tv : Value) : Prop := BoxIs w g l ∧ g ≠ B ∧ sv.ownBlock ≠ some g ∧ tv.ownBlock ≠ some g
theorem BoxFar.keep {w w' : World} {g B : Nat} {l : List Value} {sv tv sv' tv' : Value} (h : BoxFar w g l B sv tv) (k : WKeep B sv tv sv' tv' w w') : BoxFar w' g l B sv' tv' := by
  obtain ⟨h1, h2, h3, h4⟩ := h
  have hb := k.block g h1.1 h2 h3 h4
  refine ⟨⟨Nat.lt_of_lt_of_le h1.1 k.size, fun j => (World.cell?_of_block (a := ⟨g, j, none⟩) hb).trans (h1.2.1 j), fun j => (World.frozen?_of_block (a := ⟨g, j, none⟩) hb).trans (h1.2.2 j)⟩, h2, fun e => ?_, fun e => ?_⟩
  · rcases k.s g e with e | e
    · exact h3 e
    · have := h1.1; omega
  · rcases k.t g e with e | e
    · exact h4 e
    · have := h1.1; omega
def CellFar (w : World) (g o : Nat) (u : Value) (B : Nat) (sv tv : Value) : Prop := w.cell? ⟨g, o, none⟩ = some u ∧ g < w.heap.size ∧ g ≠ B ∧ sv.ownBlock ≠ some g ∧ tv.ownBlock ≠ some g
theorem CellFar.keep {w w' : World} {g o B : Nat} {u : Value} {sv tv sv' tv' : Value} (h : CellFar w g o u B sv tv) (k : WKeep B sv tv sv' tv' w w') : CellFar w' g o u B sv' tv' := by
  obtain ⟨h1, h0, h2, h3, h4⟩ := h
  refine ⟨(World.cell?_of_block (a := ⟨g, o, none⟩) (k.block g h0 h2 h3 h4)).trans h1, Nat.lt_of_lt_of_le h0 k.size, h2, fun e => ?_, fun e => ?_⟩
  · rcases k.s g e with e | e
    · exact h3 e
    · omega
  · rcases k.t g e with e | e
    · exact h4 e
    · omega
/-- A list of throws apart from the search's blocks. -/
def ListFar (w : World) (la : Option Addr) (T : List Nat) (B : Nat) (sv tv : Value) : Prop := ∀ i, i < T.length → ∃ b o, la = some ⟨b, o, none⟩ ∧ CellFar w b (o + i) (.int .i64 ((nth T i : Nat) : Int)) B sv tv
theorem ListFar.keep {w w' : World} {la : Option Addr} {T : List Nat} {B : Nat} {sv tv sv' tv' : Value} (h : ListFar w la T B sv tv) (k : WKeep B sv tv sv' tv' w w') : ListFar w' la T B sv' tv' := fun i hi => by
  obtain ⟨b, o, e, hc⟩ := h i hi
  exact ⟨b, o, e, hc.keep k⟩
theorem step_app_sts {w : World} {ops : Array Oper} {o : Oper} {a : Act} {K : Act → World → Prop} {Q : Exit → Act → World → Prop} {E : Prop} (hgd : o.guard = none) (s x : Operand)
    (ho : o.op = .call { callee := .builtin .append, args := #[s, x], argTypes := #[48, 48] })
    (base : Nat) (v : Value) (ms : List (Int × Int)) (hs : a.eval s = v) (hown : OwnSts w base v ms)
    (A : Option Addr) (c : Nat) (m : Int × Int) (hx : a.eval x = .slice A 1 c) (hr : Reads w w.heap.size 2 A 1 [.int .i64 m.1, .int .i64 m.2])
    (hsz : ms.length ≤ 1000000) (hbase : base ≤ w.heap.size)
    (h : ∀ a' c' w', OwnSts w' base (.slice a' (ms.length + 1) c') (ms ++ [m]) → w.grownBy w' v.ownBlock → ((Value.slice a' (ms.length + 1) c').ownBlock = v.ownBlock ∨ (Value.slice a' (ms.length + 1) c').ownBlock = some w.heap.size) → K (a.put o.dst (.slice a' (ms.length + 1) c')) w') :
    if Region.wanted o (yielded ops a.tmps) = true then Oper.wp Try.prog o a w K Q else E := by
  obtain ⟨i0, hi, hz0, hz1, hz2⟩ := info_parts stInfo
  refine step_append_any w hgd s x 48 ho base 47 i0 _ 2 16 Try.underlying48 hi hz0 hz1 hz2 rfl (by decide) v ms.length (cellsSt ms) hs hown w.heap.size A 1 c _ hx hr (by intro z hz; simp at hz; rcases hz with rfl | rfl <;> rfl) (by unfold maxLen; omega) (by omega) hbase ?_
  intro v' w' hown' hg hb
  obtain ⟨a', c', rfl⟩ := slice_of_own hown'
  refine h a' c' w' ?_ hg hb
  unfold OwnSts cellsSt
  rw [List.length_append, List.flatMap_append]
  simpa [cellsSt] using hown'
theorem step_app_intsI {w : World} {ops : Array Oper} {o : Oper} {a : Act} {K : Act → World → Prop} {Q : Exit → Act → World → Prop} {E : Prop} (hgd : o.guard = none) (s x : Operand)
    (ho : o.op = .call { callee := .builtin .append, args := #[s, x], argTypes := #[35, 35] })
    (base : Nat) (v : Value) (l : List Int) (hs : a.eval s = v) (hown : OwnInts w base v l)
    (A : Option Addr) (m c : Nat) (t : List Int) (hx : a.eval x = .slice A m c) (hm : m = t.length) (hr : IntsC w A t)
    (hsz : l.length + t.length ≤ 1073741824) (hbase : base ≤ w.heap.size)
    (h : ∀ a' n' c' w', OwnInts w' base (.slice a' n' c') (l ++ t) → w.grownBy w' v.ownBlock → ((Value.slice a' n' c').ownBlock = v.ownBlock ∨ (Value.slice a' n' c').ownBlock = some w.heap.size) → K (a.put o.dst (.slice a' n' c')) w') :
    if Region.wanted o (yielded ops a.tmps) = true then Oper.wp Try.prog o a w K Q else E := by
  obtain ⟨i0, h1, h2, h3, h4⟩ := intInfo'
  refine step_append_any w hgd s x 35 ho base 2 i0 _ 1 8 Try.underlying35 h1 h2 h3 h4 rfl (by decide) v l.length _ hs hown w.heap.size A m c (t.map (Value.int .i64)) hx (by rw [hm]; exact reads_ints hr) (ints_one t) (by rw [hm]; unfold maxLen; omega) (by rw [hm]; omega) hbase ?_
  intro v' w' hown' hg hb
  obtain ⟨a', c', rfl⟩ := slice_of_own hown'
  exact h a' _ c' w' (by unfold OwnInts; rw [List.map_append, List.length_append]; rw [hm] at hown'; rw [hm]; exact hown') hg hb
def wF (H m d x : Nat) (seen : List Nat) (th : List Int) (st : PSt) (t : Nat) : PSt := if st.2 then st else if skipM m d x t seen then st else wS H m d (nextM x t) (seen ++ [nextM x t]) (th ++ [(t : Int)]) st
theorem wF_stuck (H m d x : Nat) (seen : List Nat) (th : List Int) : ∀ (ts : List Nat) (st : PSt), st.2 = true → ts.foldl (wF H m d x seen th) st = st
  | [], _, _ => rfl
  | t :: ts, st, h => by
    have : wF H m d x seen th st t = st := by unfold wF; rw [if_pos h]
    rw [List.foldl_cons, this, wF_stuck H m d x seen th ts st h]
def WalkPost (KB B H m : Nat) (sv tv : Value) (seen : List Nat) (th : List Int) (w : World) (R : PSt) (e : Ending) (w' : World) : Prop :=
  e = .returned (.tuple #[]) ∧ ∃ (sv' tv' ov' : Value) (full' : Bool) (ps' : List (Value × List Int)), WInv w' KB B H m sv' tv' ov' full' seen th ps' ∧ (ps'.map (·.2), full') = R ∧ WKeep B sv tv sv' tv' w w'
theorem WalkPost.mk {KB B H m : Nat} {sv tv sv' tv' ov' : Value} {seen : List Nat} {th : List Int} {w w' : World} {R : PSt} {full' : Bool} {ps' : List (Value × List Int)} (h : WInv w' KB B H m sv' tv' ov' full' seen th ps') (hR : (ps'.map (·.2), full') = R) (hk : WKeep B sv tv sv' tv' w w') : WalkPost KB B H m sv tv seen th w R (.returned (.tuple #[])) w' := ⟨rfl, sv', tv', ov', full', ps', h, hR, hk⟩
def WalkSpec (KB B H m P d : Nat) : Prop := ∀ (x : Nat) (seen : List Nat) (th : List Int) (w : World) (sv tv ov : Value) (ps : List (Value × List Int)), x < 2 ^ H → seen.length + d ≤ 20 → th.length + d = P → WInv w KB B H m sv tv ov false seen th ps →
  Calls Try.prog 34 #[.pointer (some ⟨B, 0, none⟩), .agg #[.int .i64 H, .int .i64 x], .int .i64 d] w (WalkPost KB B H m sv tv seen th w (wS H m d x seen th (ps.map (·.2), false)))
set_option maxRecDepth 100000 in
set_option maxHeartbeats 4000000 in
theorem walk_leaf (KB B H m P : Nat) (hP1 : 1 ≤ P) (hP : P ≤ 6) : WalkSpec KB B H m P 0 := by
  intro x seen th w sv tv ov ps hx hsl hth hI
  have HI := Lib.hid hI
  have hbA : Below w.heap.size w (w.alloc (.cells #[.int .i64 H, .int .i64 x] 47)) := by go_grown
  have HX := Lib.hid (BoxIs.new w [.int .i64 H, .int .i64 x] 47)
  have HIA := Lib.hid (HI.out.below hbA)
  have c1 : (w.alloc (.cells #[.int .i64 H, .int .i64 x] 47)).cell? ⟨B, 1, none⟩ = some (.int .i64 (H : Int)) := HIA.out.box.2.1 1
  have c2 : (w.alloc (.cells #[.int .i64 H, .int .i64 x] 47)).cell? ⟨B, 2, none⟩ = some (.int .i64 (m : Int)) := HIA.out.box.2.1 2
  have x0 : (w.alloc (.cells #[.int .i64 H, .int .i64 x] 47)).cell? ⟨w.heap.size, 0, none⟩ = some (.int .i64 (H : Int)) := HX.out.2.1 0
  have x1 : (w.alloc (.cells #[.int .i64 H, .int .i64 x] 47)).cell? ⟨w.heap.size, 1, none⟩ = some (.int .i64 (x : Int)) := HX.out.2.1 1
  have HR : Hid (wS H m 0 x seen th (ps.map (·.2), false) = if x = m then addO (ps.map (·.2)) (canL th) else (ps.map (·.2), false)) := Lib.hid rfl
  generalize wS H m 0 x seen th (ps.map (·.2), false) = RR at *
  have Hth := Lib.hid hth
  clear hI hsl
  go_enter Try.func34, Try.ntmps34
  go_wp2
  generalize hwA : w.alloc (.cells #[.int .i64 H, .int .i64 x] 47) = wA at *
  have HwA := Lib.hid hbA
  clear hwA hbA
  by_cases hE : x = m
  · subst hE
    rw [if_pos rfl] at HR
    go_quiet (fail)
    have hq := below_drewN (Below.refl wA.heap.size wA) nq
    have HIq := Lib.hid (HIA.out.below hq)
    have HBq := Lib.hid (HwA.out.trans' hq)
    generalize wA.drewN nq = wq at *
    obtain ⟨ta, tn, tc, rfl⟩ := HI.out.tl
    have c4 : wq.cell? ⟨B, 4, none⟩ = some (.slice ta tn tc) := HIq.out.box.2.1 4
    clear c1 c2 x0 x1 HX HIA hq HwA
    go_wp2_with fail
    refine (l00Own_c (.slice ta tn tc) th wq (OwnInts.at HIq.out.thr) (by have := Hth.out; omega)).mono ?_
    rintro e w3 ⟨oa, on, oc, rfl, ho, hb3⟩
    have HO := Lib.hid (OwnInts.at ho)
    have HI3 := Lib.hid (HIq.out.below hb3)
    have HB3 := Lib.hid (HBq.out.trans' hb3)
    clear ho hb3 c4 HIq HBq
    go_wp2_with fail
    refine (add_c KB B H x sv (.slice ta tn tc) ov seen th ps _ th w3 HI3.out HO.out (by have := Hth.out; omega) (by have := Hth.out; omega)).mono ?_
    rintro e w4 ⟨rfl, ov', full', ps', hI4, hR4, hb4, hf4⟩
    have HI4 := Lib.hid hI4
    have HR4 : Hid ((ps'.map (·.2), full') = RR) := Lib.hid (by rw [hR4, HR.out])
    have HK4 : Hid (WKeep B sv (.slice ta tn tc) sv (.slice ta tn tc) w w4) := Lib.hid ((WKeep.of_below HB3.out).trans ⟨hb4.os, hb4.tape, hb4.output, hb4.size, fun g hg h1 _ _ => hf4 g hg h1, fun _ h => .inl h, fun _ h => .inl h⟩)
    clear hI4 hR4 hb4 hf4 HI3 HB3 HO
    go_wp2
    (try simp only [Exit.inBlock, Exit.then])
    first | refine bodyPost_ret (results_none rfl _ _ _) rfl ?_ | refine bodyPost_end (results_none rfl _ _ _) rfl ?_
    exact WalkPost.mk HI4.out HR4.out HK4.out
  · have hEI : ¬ (x : Int) = (m : Int) := fun h => hE (Int.ofNat_inj.1 h)
    have hEb : ((x : Int) == (m : Int)) = false := beq_eq_false_iff_ne.2 hEI
    rw [if_neg hE] at HR
    clear hE
    go_quiet (fail)
    have hq := below_drewN (Below.refl wA.heap.size wA) nq
    have HIq := Lib.hid (HIA.out.below hq)
    have HBq : Hid (WKeep B sv tv sv tv w (wA.drewN nq)) := Lib.hid (WKeep.of_below (HwA.out.trans' hq))
    clear c1 c2 x0 x1 HX HIA hq HwA
    go_wp2
    (try simp only [Exit.inBlock, Exit.then])
    first | refine bodyPost_ret (results_none rfl _ _ _) rfl ?_ | refine bodyPost_end (results_none rfl _ _ _) rfl ?_
    exact WalkPost.mk HIq.out HR.out.symm HBq.out
set_option maxRecDepth 100000 in
set_option maxHeartbeats 8000000 in
theorem walk_loop (KB B H m P d : Nat) (hP1 : 1 ≤ P) (hP : P ≤ 6) (hH : H ≤ 7) (ih : WalkSpec KB B H m P d) : WalkSpec KB B H m P (d + 1) := by
  intro x seen th w sv tv ov ps hx hsl hth hI
  have IH := Lib.hid ih
  have HI := Lib.hid hI
  have Hth := Lib.hid hth
  have Hsl := Lib.hid hsl
  have h7 : (2 : Nat) ^ H ≤ 2 ^ 7 := Nat.pow_le_pow_right (by decide) hH
  have hx128 : x < 128 := by omega
  have Hx := Lib.hid hx
  have hbA : Below w.heap.size w (w.alloc (.cells #[.int .i64 H, .int .i64 x] 47)) := by go_grown
  have HX := Lib.hid (BoxIs.new w [.int .i64 H, .int .i64 x] 47)
  have HIA := Lib.hid (HI.out.below hbA)
  have HR : Hid (wS H m (d + 1) x seen th (ps.map (·.2), false) = (throwsM H x).foldl (wF H m d x seen th) (ps.map (·.2), false)) := Lib.hid rfl
  generalize wS H m (d + 1) x seen th (ps.map (·.2), false) = RR at *
  have HTs := Lib.hid (fun W => l08Throws_c H x W hx128 hH)
  have x0 : (w.alloc (.cells #[.int .i64 H, .int .i64 x] 47)).cell? ⟨w.heap.size, 0, none⟩ = some (.int .i64 (H : Int)) := HX.out.2.1 0
  have x1 : (w.alloc (.cells #[.int .i64 H, .int .i64 x] 47)).cell? ⟨w.heap.size, 1, none⟩ = some (.int .i64 (x : Int)) := HX.out.2.1 1
  have hd6 : d + 1 ≤ 6 := by omega
  clear hI hsl hth ih hx h7
  go_enter Try.func34, Try.ntmps34
  go_wp2_with fail
  refine (HTs.out _).mono ?_
  rintro e w1 ⟨la, ln, lc, rfl, hol, hb1⟩
  have hlen : ln = (throwsM H x).length := by
    obtain ⟨_, _, e⟩ := slice_of_own hol
    injection e with _ e2 _
    rw [e2, List.length_map]
  have HLen := Lib.hid hlen
  have hln9 : ln ≤ 8 := by
    rw [hlen]
    have := List.length_filter_le (canM H x) (List.range (H + 1))
    rw [List.length_range] at this
    unfold throwsM; omega
  have hbw : Below w.heap.size w w1 := Below.trans' hbA hb1
  have HI1 := Lib.hid (HIA.out.below hb1)
  have HX1 := Lib.hid (HX.out.below hb1)
  have HL1 := Lib.hid (OwnInts.at hol)
  have HLo := Lib.hid hol
  have HFar1 : Hid (∀ g, (g = w.heap.size ∨ (Value.slice la ln lc).ownBlock = some g) → g < w1.heap.size ∧ g ≠ B ∧ sv.ownBlock ≠ some g ∧ tv.ownBlock ≠ some g) := Lib.hid (fun g hg => by
    have h1 : w.heap.size ≤ g ∧ g < w1.heap.size := by
      rcases hg with rfl | hg
      · exact ⟨Nat.le_refl _, HX1.out.1⟩
      · have := hol.lt g hg
        have h2 : (w.alloc (.cells #[.int .i64 H, .int .i64 x] 47)).heap.size = w.heap.size + 1 := by simp
        omega
    refine ⟨h1.2, ?_, fun e => ?_, fun e => ?_⟩
    · have := HI.out.box.1; omega
    · have := (HI.out.sts.lt g e).2; omega
    · have := (HI.out.thr.lt g e).2; omega)
  have HK1 : Hid (WKeep B sv tv sv tv w w1) := Lib.hid (WKeep.of_below hbw)
  have hd1 : ((d + 1 : Nat) : Int) ≠ 0 := by omega
  have hK0 := HI.out.kw
  have HkB := Lib.hid HI.out.kB
  have HsK : Hid (∀ g, sv.ownBlock = some g → KB ≤ g) := Lib.hid (fun g hg => (HI.out.sts.lt g hg).1)
  have HtK : Hid (∀ g, tv.ownBlock = some g → KB ≤ g) := Lib.hid (fun g hg => (HI.out.thr.lt g hg).1)
  have HTb : Hid (∀ i, i < ln → nth ((throwsM H x).map fun t : Nat => (t : Int)) i = ((nth (throwsM H x) i : Nat) : Int) ∧ nth (throwsM H x) i ≤ H) := Lib.hid (fun i hi => by
    have hi2 : i < (throwsM H x).length := by rw [← hlen]; exact hi
    refine ⟨nth_map' _ _ _ hi2, ?_⟩
    have h1 := mem_nth hi2
    unfold throwsM at h1
    have h2 := List.mem_range.1 (List.mem_filter.1 h1).1
    unfold throwsM; omega)
  clear hol hb1 hbw hbA HX HIA HTs x0 x1 hlen hd1
  obtain ⟨X0, hX0⟩ : ∃ X0, w.heap.size = X0 := ⟨_, rfl⟩
  rw [hX0] at HX1 HFar1
  have HXf : Hid (BoxFar w1 X0 [.int .i64 H, .int .i64 x] B sv tv) := Lib.hid ⟨HX1.out, (HFar1.out X0 (.inl rfl)).2⟩
  have HLf : Hid (ListFar w1 la (throwsM H x) B sv tv) := Lib.hid (fun i hi => by
    obtain ⟨_, _, _, he, -, -, -, hc⟩ := HL1.out
    injection he with he1 he2 he3
    obtain ⟨b, o, e, hb, c0⟩ := hc i (by rw [List.length_map]; exact hi)
    rw [nth_map' _ _ _ hi] at c0
    have hla : la = some ⟨b, o, none⟩ := he1.trans e
    obtain ⟨f1, f2⟩ := HFar1.out b (.inr (by
      rcases HLo.out.2 with ⟨e2, _⟩ | ⟨g, cap, cur, e2, _⟩
      · rw [hla] at e2; cases e2
      · injection e2 with e3
        rw [hla] at e3
        injection e3 with e3
        injection e3 with e4 e5
        subst e4 e5
        rw [hla]; rfl))
    exact ⟨b, o, hla, c0, f1, f2⟩)
  clear HX1 HL1 HFar1 HLo
  have HX0 := Lib.hid hX0
  go_wp2
  go_loopw [7] (fun vi wr => ∃ (i : Nat) (sv' tv' ov' : Value) (full' : Bool) (ps' : List (Value × List Int)), vi = .int .i64 i ∧ i ≤ ln ∧ Hid (WInv wr KB B H m sv' tv' ov' full' seen th ps') ∧ Hid (RR = ((throwsM H x).drop i).foldl (wF H m d x seen th) (ps'.map (·.2), full')) ∧ Hid (BoxFar wr X0 [.int .i64 H, .int .i64 x] B sv' tv') ∧ Hid (ListFar wr la (throwsM H x) B sv' tv') ∧ Hid (WKeep B sv tv sv' tv' w wr)) (fun vi _ => ln - (intOf vi).toNat)
  case atStart => exact ⟨0, sv, tv, ov, false, ps, rfl, Nat.zero_le _, HI1, HR, HXf, HLf, HK1⟩
  case round =>
    clear HI1 HR HXf HLf HK1
    obtain ⟨i, sv', tv', ov', full', ps', rfl, hi, HI, HR, HX, HL, HK⟩ := hrel
    have c6 : wr.cell? ⟨B, 6, none⟩ = some (.bool full') := HI.out.box.2.1 6
    by_cases hlt : i < ln
    · cases full'
      · have hiT : i < (throwsM H x).length := by rw [← HLen.out]; exact hlt
        have HS : Hid (RR = ((throwsM H x).drop (i + 1)).foldl (wF H m d x seen th) (wF H m d x seen th (ps'.map (·.2), false) (nth (throwsM H x) i))) := Lib.hid (by rw [HR.out, drop_nth _ _ hiT]; rfl)
        obtain ⟨ht1, ht7⟩ := HTb.out i hlt
        obtain ⟨lb, lo, rfl, hce⟩ := HL.out i hiT
        have HWF : Hid (wF H m d x seen th (ps'.map (·.2), false) (nth (throwsM H x) i) = if skipM m d x (nth (throwsM H x) i) seen then (ps'.map (·.2), false) else wS H m d (nextM x (nth (throwsM H x) i)) (seen ++ [nextM x (nth (throwsM H x) i)]) (th ++ [((nth (throwsM H x) i : Nat) : Int)]) (ps'.map (·.2), false)) := Lib.hid rfl
        generalize nth (throwsM H x) i = t at *
        have HCe := Lib.hid hce
        have l0 := hce.1
        have hlb := hce.2.1
        clear hce
        have HNx := Lib.hid (fun W => l08Next_c H x t W hx128 (by omega))
        have hy := nextM_lt (H := H) Hx.out ht7
        have x0 : wr.cell? ⟨X0, 0, none⟩ = some (.int .i64 (H : Int)) := HX.out.1.2.1 0
        have x1 : wr.cell? ⟨X0, 1, none⟩ = some (.int .i64 (x : Int)) := HX.out.1.2.1 1
        have hX0l := HX.out.1.1
        clear HR ht1 hiT
        generalize hny : nextM x t = y at *
        have HNy := Lib.hid hny
        clear hny
        go_wp2
        refine wp_region_held_drew (S := fun w' => Below wr.heap.size wr w') (by kernel_rfl) (by exact ((Below.refl wr.heap.size wr)).drew) (fun hHeld => ?_)
        refine wpAnyH_take (i := 0) (oi := ⟨_, _, _, _, _, _⟩) (v := ?_) rfl (by kernel_rfl) (by kernel_rfl) (by kernel_rfl) (fun _ _ _ h => h) (Or.inl ⟨by rfl, ?_⟩) (by assumption) ?_; rotate_left; (focus (intro w hSw; (try dsimp only at hSw); have t0 := cell_then hX0l x0 hSw; have t1 := cell_then hX0l x1 hSw; have t2 := cell_then hlb l0 hSw; go_simp; try with_reducible rfl)); (try simp only [Act.put, List.setIfInBounds_toArray, List.set_cons_zero, List.set_cons_succ])
        refine wpAnyH_take (i := 1) (oi := ⟨_, _, _, _, _, _⟩) (v := ?_) rfl (by kernel_rfl) (by kernel_rfl) (by kernel_rfl) (fun _ _ _ h => h) (Or.inl ⟨by rfl, ?_⟩) (by assumption) ?_; rotate_left; (focus (intro w hSw; (try dsimp only at hSw); go_simp; try with_reducible rfl)); (try simp only [Act.put, List.setIfInBounds_toArray, List.set_cons_zero, List.set_cons_succ])
        refine wpAnyH_take (i := 2) (oi := ⟨_, _, _, _, _, _⟩) (v := ?_) rfl (by kernel_rfl) (by kernel_rfl) (by kernel_rfl) (fun _ _ _ h => h) (Or.inl ⟨by rfl, ?_⟩) (by assumption) ?_; rotate_left; (focus (intro w hSw; (try dsimp only at hSw); go_simp; try with_reducible rfl)); (try simp only [Act.put, List.setIfInBounds_toArray, List.set_cons_zero, List.set_cons_succ])
        refine wpAnyH_take (i := 3) (oi := ⟨_, _, _, _, _, _⟩) (v := ?_) rfl (by kernel_rfl) (by kernel_rfl) (by kernel_rfl) (fun _ _ _ h => h) (Or.inl ⟨by rfl, ?_⟩) (by assumption) ?_; rotate_left; (focus (intro w hSw; (try dsimp only at hSw); go_simp; try with_reducible rfl)); (try simp only [Act.put, List.setIfInBounds_toArray, List.set_cons_zero, List.set_cons_succ])
        refine wpAnyH_take (i := 4) (oi := ⟨_, _, _, _, _, _⟩) (v := ?_) rfl (by kernel_rfl) (by kernel_rfl) (by kernel_rfl) (fun _ _ _ h => h) (Or.inl ⟨by rfl, ?_⟩) (by assumption) ?_; rotate_left; (focus (intro w hSw; (try dsimp only at hSw); have t0 := cell_then hX0l x0 hSw; have t1 := cell_then hX0l x1 hSw; have t2 := cell_then hlb l0 hSw; go_simp; try with_reducible rfl)); (try simp only [Act.put, List.setIfInBounds_toArray, List.set_cons_zero, List.set_cons_succ])
        refine wpAnyH_ready (rs := [5, 6]) (by kernel_rfl) (by simp) ?_
        refine AllReadyH.cons (o := ⟨_, _, _, _, _, _⟩) rfl (fun K hK => ?_) (AllReadyH.cons (o := ⟨_, _, _, _, _, _⟩) rfl (fun K hK => ?_) (AllReadyH.nil))
        go_simp
        go_at_call 49; refine (HNx.out _).mono ?_; rintro e x5 ⟨rfl, d5⟩; have hS' := bthen hHeld d5; have HB5 := Lib.hid hS'; try (have hbx := ((BoxIs.new wr.drew [.int .i64 0, .int .i64 0] 47).below d5); have HZ := Lib.hid hbx; have z0 : x5.cell? ⟨wr.heap.size, 0, none⟩ = some (.int .i64 0) := hbx.2.1 0; have z1 : x5.cell? ⟨wr.heap.size, 1, none⟩ = some (.int .i64 0) := hbx.2.1 1; have zf0 : x5.frozen? ⟨wr.heap.size, 0, none⟩ = false := hbx.2.2 0; have zf1 : x5.frozen? ⟨wr.heap.size, 1, none⟩ = false := hbx.2.2 1; have zl : wr.heap.size < x5.heap.size := hbx.1; clear hbx)
        refine hK.out _ _ (by exact hS') (fun hHeld' => ?_)
        clear hHeld hK K
        have hHeld := hHeld'
        clear hHeld'
        try simp only [Act.put, List.setIfInBounds_toArray, List.set_cons_zero, List.set_cons_succ]
        refine wpAnyH_ready (rs := [6]) (by kernel_rfl) (by simp) ?_
        refine AllReadyH.cons (o := ⟨_, _, _, _, _, _⟩) rfl (fun K hK => ?_) AllReadyH.nil
        go_simp
        refine hK.out _ _ (by exact hHeld.alloc hHeld.size _) (fun hHeld' => ?_)
        clear hHeld hK K
        have hHeld := hHeld'
        clear hHeld'
        try simp only [Act.put, List.setIfInBounds_toArray, List.set_cons_zero, List.set_cons_succ]
        refine wpAnyH_ready (rs := [7]) (by kernel_rfl) (by simp) ?_
        refine AllReadyH.cons (o := ⟨_, _, _, _, _, _⟩) rfl (fun K hK => ?_) AllReadyH.nil
        skip
        go_simp
        refine hK.out _ _ (by exact (by first | exact HB5.out.alloc HB5.out.size _ | exact (HB5.out.setCell (p := ⟨wr.heap.size, 0, none⟩) (Nat.le_refl _) _).setCell (p := ⟨wr.heap.size, 1, none⟩) (Nat.le_refl _) _)) (fun hHeld' => ?_)
        clear hHeld hK K
        have hHeld := hHeld'
        clear hHeld'
        try simp only [Act.put, List.setIfInBounds_toArray, List.set_cons_zero, List.set_cons_succ]
        refine wpAnyH_done (by kernel_rfl) ?_ _
        rotate_left
        go_simp
        refine hK.out _ _ (by exact hHeld.alloc hHeld.size _) (fun hHeld' => ?_)
        clear hHeld hK K
        have hHeld := hHeld'
        clear hHeld'
        try simp only [Act.put, List.setIfInBounds_toArray, List.set_cons_zero, List.set_cons_succ]
        refine wpAnyH_ready (rs := [5]) (by kernel_rfl) (by simp) ?_
        refine AllReadyH.cons (o := ⟨_, _, _, _, _, _⟩) rfl (fun K hK => ?_) AllReadyH.nil
        go_simp
        go_at_call 49; refine (HNx.out _).mono ?_; rintro e x5 ⟨rfl, d5⟩; have hS' := bthen hHeld d5; have HB5 := Lib.hid hS'; try (have hbx := ((BoxIs.new wr.drew [.int .i64 0, .int .i64 0] 47).below d5); have HZ := Lib.hid hbx; have z0 : x5.cell? ⟨wr.heap.size, 0, none⟩ = some (.int .i64 0) := hbx.2.1 0; have z1 : x5.cell? ⟨wr.heap.size, 1, none⟩ = some (.int .i64 0) := hbx.2.1 1; have zf0 : x5.frozen? ⟨wr.heap.size, 0, none⟩ = false := hbx.2.2 0; have zf1 : x5.frozen? ⟨wr.heap.size, 1, none⟩ = false := hbx.2.2 1; have zl : wr.heap.size < x5.heap.size := hbx.1; clear hbx)
        refine hK.out _ _ (by exact hS') (fun hHeld' => ?_)
        clear hHeld hK K
        have hHeld := hHeld'
        clear hHeld'
        try simp only [Act.put, List.setIfInBounds_toArray, List.set_cons_zero, List.set_cons_succ]
        refine wpAnyH_ready (rs := [7]) (by kernel_rfl) (by simp) ?_
        refine AllReadyH.cons (o := ⟨_, _, _, _, _, _⟩) rfl (fun K hK => ?_) AllReadyH.nil
        skip
        go_simp
        refine hK.out _ _ (by exact (by first | exact HB5.out.alloc HB5.out.size _ | exact (HB5.out.setCell (p := ⟨wr.heap.size, 0, none⟩) (Nat.le_refl _) _).setCell (p := ⟨wr.heap.size, 1, none⟩) (Nat.le_refl _) _)) (fun hHeld' => ?_)
        clear hHeld hK K
        have hHeld := hHeld'
        clear hHeld'
        try simp only [Act.put, List.setIfInBounds_toArray, List.set_cons_zero, List.set_cons_succ]
        refine wpAnyH_done (by kernel_rfl) ?_ _
        rotate_left
        · have HN := Lib.hid (BoxIs.new x5 [.int .i64 H, .int .i64 y] 47)
          have HB9 : Hid (Below wr.heap.size wr (x5.alloc (.cells #[.int .i64 H, .int .i64 y] 47))) := Lib.hid hHeld
          have hN0 : wr.heap.size ≤ x5.heap.size := HB5.out.size
          generalize x5.alloc (.cells #[.int .i64 H, .int .i64 y] 47) = w9 at *
          generalize x5.heap.size = N0 at *
          clear hHeld HB5
          have HI9 := Lib.hid (HI.out.below HB9.out)
          have HKz9 : Hid (WKeep B sv' tv' sv' tv' wr w9) := Lib.hid (WKeep.of_below HB9.out)
          have HX9 := Lib.hid (HX.out.keep HKz9.out)
          have HL9 := Lib.hid (HL.out.keep HKz9.out)
          have HC9 := Lib.hid (HCe.out.keep HKz9.out)
          have HK9 := Lib.hid (HK.out.trans HKz9.out)
          have HN9 : Hid (BoxFar w9 N0 [.int .i64 H, .int .i64 y] B sv' tv') := Lib.hid ⟨HN.out, by have := HI.out.box.1; omega, fun e => by have := (HI.out.sts.lt N0 e).2; omega, fun e => by have := (HI.out.thr.lt N0 e).2; omega⟩
          have n0 : w9.cell? ⟨N0, 0, none⟩ = some (.int .i64 (H : Int)) := HN.out.2.1 0
          have n1 : w9.cell? ⟨N0, 1, none⟩ = some (.int .i64 (y : Int)) := HN.out.2.1 1
          have b2 : w9.cell? ⟨B, 2, none⟩ = some (.int .i64 (m : Int)) := HI9.out.box.2.1 2
          have hNl := HN.out.1
          have hBl := HI9.out.box.1
          clear HI HX HL HK HCe x0 x1 l0 hlb hX0l c6 HB9 HNx hN0 HKz9 HN
          by_cases hd0 : d = 0
          · have HSkip : Hid (skipM m d x t seen = false) := Lib.hid (by unfold skipM; rw [decide_eq_false (by omega)]; rfl)
            have hdI : ¬ (1 : Int) < (d : Int) + 1 := by omega
            have hdd : decide ((1 : Int) < (d : Int) + 1) = false := decide_eq_false hdI
            have hdd2 : decide (1 < d + 1) = false := decide_eq_false (by omega)
            have hdd3 : decide (0 < d) = false := decide_eq_false (by omega)
            clear hd0
            go_wp2
            refine wp_region_held_drew (S := fun w' => Below w9.heap.size w9 w') (by kernel_rfl) (by exact ((Below.refl w9.heap.size w9)).drew) (fun hHeld => ?_)
            refine wpAnyH_take (i := 0) (oi := ⟨_, _, _, _, _, _⟩) (v := ?_) rfl (by kernel_rfl) (by kernel_rfl) (by kernel_rfl) (fun _ _ _ h => h) (Or.inl ⟨by rfl, ?_⟩) (by assumption) ?_; rotate_left; (focus (intro w hSw; (try dsimp only at hSw); go_simp; try with_reducible rfl)); (try simp only [Act.put, List.setIfInBounds_toArray, List.set_cons_zero, List.set_cons_succ])
            refine wpAnyH_take (i := 1) (oi := ⟨_, _, _, _, _, _⟩) (v := ?_) rfl (by kernel_rfl) (by kernel_rfl) (by kernel_rfl) (fun _ _ _ h => h) (Or.inl ⟨by rfl, ?_⟩) (by assumption) ?_; rotate_left; (focus (intro w hSw; (try dsimp only at hSw); go_simp; try with_reducible rfl)); (try simp only [Act.put, List.setIfInBounds_toArray, List.set_cons_zero, List.set_cons_succ])
            refine wpAnyH_take (i := 2) (oi := ⟨_, _, _, _, _, _⟩) (v := ?_) rfl (by kernel_rfl) (by kernel_rfl) (by kernel_rfl) (fun _ _ _ h => h) (Or.inl ⟨by rfl, ?_⟩) (by assumption) ?_; rotate_left; (focus (intro w hSw; (try dsimp only at hSw); go_simp; try with_reducible rfl)); (try simp only [Act.put, List.setIfInBounds_toArray, List.set_cons_zero, List.set_cons_succ])
            first | (refine wpAnyH_take (i := 3) (oi := ⟨_, _, _, _, _, _⟩) rfl (by kernel_rfl) (by kernel_rfl) (by kernel_rfl) (fun _ _ _ h => h) (Or.inr ⟨by rfl, rfl⟩) (by assumption) ?_; (try simp only [Act.put, List.setIfInBounds_toArray, List.set_cons_zero, List.set_cons_succ])) | (refine wpAnyH_take (i := 3) (oi := ⟨_, _, _, _, _, _⟩) (v := ?_) rfl (by kernel_rfl) (by kernel_rfl) (by kernel_rfl) (fun _ _ _ h => h) (Or.inl ⟨by rfl, ?_⟩) (by assumption) ?_; rotate_left; (focus (intro w hSw; (try dsimp only at hSw); go_simp; try with_reducible rfl)); (try simp only [Act.put, List.setIfInBounds_toArray, List.set_cons_zero, List.set_cons_succ]))
            first | (refine wpAnyH_take (i := 4) (oi := ⟨_, _, _, _, _, _⟩) rfl (by kernel_rfl) (by kernel_rfl) (by kernel_rfl) (fun _ _ _ h => h) (Or.inr ⟨by rfl, rfl⟩) (by assumption) ?_; (try simp only [Act.put, List.setIfInBounds_toArray, List.set_cons_zero, List.set_cons_succ])) | (refine wpAnyH_take (i := 4) (oi := ⟨_, _, _, _, _, _⟩) (v := ?_) rfl (by kernel_rfl) (by kernel_rfl) (by kernel_rfl) (fun _ _ _ h => h) (Or.inl ⟨by rfl, ?_⟩) (by assumption) ?_; rotate_left; (focus (intro w hSw; (try dsimp only at hSw); have t0 := cell_then hNl n0 hSw; have t1 := cell_then hNl n1 hSw; have t2 := cell_then hBl b2 hSw; go_simp; try with_reducible rfl)); (try simp only [Act.put, List.setIfInBounds_toArray, List.set_cons_zero, List.set_cons_succ]))
            first | (refine wpAnyH_take (i := 5) (oi := ⟨_, _, _, _, _, _⟩) rfl (by kernel_rfl) (by kernel_rfl) (by kernel_rfl) (fun _ _ _ h => h) (Or.inr ⟨by rfl, rfl⟩) (by assumption) ?_; (try simp only [Act.put, List.setIfInBounds_toArray, List.set_cons_zero, List.set_cons_succ])) | (refine wpAnyH_take (i := 5) (oi := ⟨_, _, _, _, _, _⟩) (v := ?_) rfl (by kernel_rfl) (by kernel_rfl) (by kernel_rfl) (fun _ _ _ h => h) (Or.inl ⟨by rfl, ?_⟩) (by assumption) ?_; rotate_left; (focus (intro w hSw; (try dsimp only at hSw); go_simp; try with_reducible rfl)); (try simp only [Act.put, List.setIfInBounds_toArray, List.set_cons_zero, List.set_cons_succ]))
            first | (refine wpAnyH_take (i := 6) (oi := ⟨_, _, _, _, _, _⟩) rfl (by kernel_rfl) (by kernel_rfl) (by kernel_rfl) (fun _ _ _ h => h) (Or.inr ⟨by rfl, rfl⟩) (by assumption) ?_; (try simp only [Act.put, List.setIfInBounds_toArray, List.set_cons_zero, List.set_cons_succ])) | (refine wpAnyH_take (i := 6) (oi := ⟨_, _, _, _, _, _⟩) (v := ?_) rfl (by kernel_rfl) (by kernel_rfl) (by kernel_rfl) (fun _ _ _ h => h) (Or.inl ⟨by rfl, ?_⟩) (by assumption) ?_; rotate_left; (focus (intro w hSw; (try dsimp only at hSw); go_simp; try with_reducible rfl)); (try simp only [Act.put, List.setIfInBounds_toArray, List.set_cons_zero, List.set_cons_succ]))
            first | (refine wpAnyH_take (i := 7) (oi := ⟨_, _, _, _, _, _⟩) rfl (by kernel_rfl) (by kernel_rfl) (by kernel_rfl) (fun _ _ _ h => h) (Or.inr ⟨by rfl, rfl⟩) (by assumption) ?_; (try simp only [Act.put, List.setIfInBounds_toArray, List.set_cons_zero, List.set_cons_succ])) | (refine wpAnyH_take (i := 7) (oi := ⟨_, _, _, _, _, _⟩) (v := ?_) rfl (by kernel_rfl) (by kernel_rfl) (by kernel_rfl) (fun _ _ _ h => h) (Or.inl ⟨by rfl, ?_⟩) (by assumption) ?_; rotate_left; (focus (intro w hSw; (try dsimp only at hSw); go_simp; try with_reducible rfl)); (try simp only [Act.put, List.setIfInBounds_toArray, List.set_cons_zero, List.set_cons_succ]))
            first | (refine wpAnyH_take (i := 8) (oi := ⟨_, _, _, _, _, _⟩) rfl (by kernel_rfl) (by kernel_rfl) (by kernel_rfl) (fun _ _ _ h => h) (Or.inr ⟨by rfl, rfl⟩) (by assumption) ?_; (try simp only [Act.put, List.setIfInBounds_toArray, List.set_cons_zero, List.set_cons_succ])) | (refine wpAnyH_take (i := 8) (oi := ⟨_, _, _, _, _, _⟩) (v := ?_) rfl (by kernel_rfl) (by kernel_rfl) (by kernel_rfl) (fun _ _ _ h => h) (Or.inl ⟨by rfl, ?_⟩) (by assumption) ?_; rotate_left; (focus (intro w hSw; (try dsimp only at hSw); go_simp; try with_reducible rfl)); (try simp only [Act.put, List.setIfInBounds_toArray, List.set_cons_zero, List.set_cons_succ]))
            first | (refine wpAnyH_take (i := 9) (oi := ⟨_, _, _, _, _, _⟩) rfl (by kernel_rfl) (by kernel_rfl) (by kernel_rfl) (fun _ _ _ h => h) (Or.inr ⟨by rfl, rfl⟩) (by assumption) ?_; (try simp only [Act.put, List.setIfInBounds_toArray, List.set_cons_zero, List.set_cons_succ])) | (refine wpAnyH_take (i := 9) (oi := ⟨_, _, _, _, _, _⟩) (v := ?_) rfl (by kernel_rfl) (by kernel_rfl) (by kernel_rfl) (fun _ _ _ h => h) (Or.inl ⟨by rfl, ?_⟩) (by assumption) ?_; rotate_left; (focus (intro w hSw; (try dsimp only at hSw); have t0 := cell_then hNl n0 hSw; have t1 := cell_then hNl n1 hSw; have t2 := cell_then hBl b2 hSw; go_simp; try with_reducible rfl)); (try simp only [Act.put, List.setIfInBounds_toArray, List.set_cons_zero, List.set_cons_succ]))
            first | (refine wpAnyH_take (i := 10) (oi := ⟨_, _, _, _, _, _⟩) rfl (by kernel_rfl) (by kernel_rfl) (by kernel_rfl) (fun _ _ _ h => h) (Or.inr ⟨by rfl, rfl⟩) (by assumption) ?_; (try simp only [Act.put, List.setIfInBounds_toArray, List.set_cons_zero, List.set_cons_succ])) | (refine wpAnyH_take (i := 10) (oi := ⟨_, _, _, _, _, _⟩) (v := ?_) rfl (by kernel_rfl) (by kernel_rfl) (by kernel_rfl) (fun _ _ _ h => h) (Or.inl ⟨by rfl, ?_⟩) (by assumption) ?_; rotate_left; (focus (intro w hSw; (try dsimp only at hSw); go_simp; try with_reducible rfl)); (try simp only [Act.put, List.setIfInBounds_toArray, List.set_cons_zero, List.set_cons_succ]))
            first | (refine wpAnyH_take (i := 11) (oi := ⟨_, _, _, _, _, _⟩) rfl (by kernel_rfl) (by kernel_rfl) (by kernel_rfl) (fun _ _ _ h => h) (Or.inr ⟨by rfl, rfl⟩) (by assumption) ?_; (try simp only [Act.put, List.setIfInBounds_toArray, List.set_cons_zero, List.set_cons_succ])) | (refine wpAnyH_take (i := 11) (oi := ⟨_, _, _, _, _, _⟩) (v := ?_) rfl (by kernel_rfl) (by kernel_rfl) (by kernel_rfl) (fun _ _ _ h => h) (Or.inl ⟨by rfl, ?_⟩) (by assumption) ?_; rotate_left; (focus (intro w hSw; (try dsimp only at hSw); go_simp; try with_reducible rfl)); (try simp only [Act.put, List.setIfInBounds_toArray, List.set_cons_zero, List.set_cons_succ]))
            first | (refine wpAnyH_take (i := 12) (oi := ⟨_, _, _, _, _, _⟩) rfl (by kernel_rfl) (by kernel_rfl) (by kernel_rfl) (fun _ _ _ h => h) (Or.inr ⟨by rfl, rfl⟩) (by assumption) ?_; (try simp only [Act.put, List.setIfInBounds_toArray, List.set_cons_zero, List.set_cons_succ])) | (refine wpAnyH_take (i := 12) (oi := ⟨_, _, _, _, _, _⟩) (v := ?_) rfl (by kernel_rfl) (by kernel_rfl) (by kernel_rfl) (fun _ _ _ h => h) (Or.inl ⟨by rfl, ?_⟩) (by assumption) ?_; rotate_left; (focus (intro w hSw; (try dsimp only at hSw); go_simp; try with_reducible rfl)); (try simp only [Act.put, List.setIfInBounds_toArray, List.set_cons_zero, List.set_cons_succ]))
            first | (refine wpAnyH_take (i := 13) (oi := ⟨_, _, _, _, _, _⟩) rfl (by kernel_rfl) (by kernel_rfl) (by kernel_rfl) (fun _ _ _ h => h) (Or.inr ⟨by rfl, rfl⟩) (by assumption) ?_; (try simp only [Act.put, List.setIfInBounds_toArray, List.set_cons_zero, List.set_cons_succ])) | (refine wpAnyH_take (i := 13) (oi := ⟨_, _, _, _, _, _⟩) (v := ?_) rfl (by kernel_rfl) (by kernel_rfl) (by kernel_rfl) (fun _ _ _ h => h) (Or.inl ⟨by rfl, ?_⟩) (by assumption) ?_; rotate_left; (focus (intro w hSw; (try dsimp only at hSw); have t0 := cell_then hNl n0 hSw; have t1 := cell_then hNl n1 hSw; have t2 := cell_then hBl b2 hSw; go_simp; try with_reducible rfl)); (try simp only [Act.put, List.setIfInBounds_toArray, List.set_cons_zero, List.set_cons_succ]))
            (refine wpAnyH_take (i := 14) (oi := ⟨_, _, _, _, _, _⟩) rfl (by kernel_rfl) (by kernel_rfl) (by kernel_rfl) (fun _ _ _ h => h) (Or.inr ⟨by rfl, rfl⟩) (by assumption) ?_; (try simp only [Act.put, List.setIfInBounds_toArray, List.set_cons_zero, List.set_cons_succ]))
            first | (refine wpAnyH_take (i := 15) (oi := ⟨_, _, _, _, _, _⟩) rfl (by kernel_rfl) (by kernel_rfl) (by kernel_rfl) (fun _ _ _ h => h) (Or.inr ⟨by rfl, rfl⟩) (by assumption) ?_; (try simp only [Act.put, List.setIfInBounds_toArray, List.set_cons_zero, List.set_cons_succ])) | (refine wpAnyH_take (i := 15) (oi := ⟨_, _, _, _, _, _⟩) (v := ?_) rfl (by kernel_rfl) (by kernel_rfl) (by kernel_rfl) (fun _ _ _ h => h) (Or.inl ⟨by rfl, ?_⟩) (by assumption) ?_; rotate_left; (focus (intro w hSw; (try dsimp only at hSw); go_simp; try with_reducible rfl)); (try simp only [Act.put, List.setIfInBounds_toArray, List.set_cons_zero, List.set_cons_succ]))
            refine wpAnyH_take (i := 16) (oi := ⟨_, _, _, _, _, _⟩) (v := ?_) rfl (by kernel_rfl) (by kernel_rfl) (by kernel_rfl) (fun _ _ _ h => h) (Or.inl ⟨by rfl, ?_⟩) (by assumption) ?_; rotate_left; (focus (intro w hSw; (try dsimp only at hSw); go_simp; try with_reducible rfl)); (try simp only [Act.put, List.setIfInBounds_toArray, List.set_cons_zero, List.set_cons_succ])
            refine wpAnyH_done (by kernel_rfl) ?_ _
            clear n0 n1 b2 hNl hBl hdI hdd hdd2 hdd3
            have HKz : Hid (WKeep B sv' tv' sv' tv' w9 (w9.drew)) := Lib.hid (WKeep.of_below hHeld)
            have HIa := Lib.hid (HI9.out.below hHeld)
            have HXa := Lib.hid (HX9.out.keep HKz.out)
            have HLa := Lib.hid (HL9.out.keep HKz.out)
            have HNa := Lib.hid (HN9.out.keep HKz.out)
            have HCa := Lib.hid (HC9.out.keep HKz.out)
            have HKa := Lib.hid (HK9.out.trans HKz.out)
            have HSk : Hid (wF H m d x seen th (ps'.map (·.2), false) t = wS H m d y (seen ++ [y]) (th ++ [(t : Int)]) (ps'.map (·.2), false)) := Lib.hid (by rw [HWF.out, if_neg (by rw [HSkip.out]; decide)])
            clear HKz HI9 HX9 HL9 HN9 HC9 HK9 HWF HSkip HNy hHeld
            generalize (w9.drew) = w10 at *
            obtain ⟨sa, sn, sc, rfl⟩ := HIa.out.ss
            have HSn : Hid (sn = seen.length) := Lib.hid (by have h := sts_len HIa.out.sts; rw [stM_len] at h; exact h)
            have hbd : Below w10.heap.size w10 w10.drew := (Below.refl _ _).drew
            go_wp2
            refine wp_region_dep (S := fun L w' => Till 10 (fun w' => BoxIs w' B [.int .i64 H, .int .i64 H, .int .i64 m, .slice sa sn sc, tv', ov', .bool false] ∧ BoxIs w' N0 [.int .i64 H, .int .i64 y]) L w') (by kernel_rfl) (by exact (fun _ => ⟨HIa.out.box.below hbd, HNa.out.1.below hbd⟩)) (fun hHeld => ?_)
            refine wpAnyD_take (i := 0) (oi := ⟨_, _, _, _, _, _⟩) (v := ?_) rfl (by kernel_rfl) (by kernel_rfl) (by kernel_rfl) (fun _ _ _ h => h) (by intro L w'; (try dsimp only); repeat (first | exact Iff.rfl | exact Till.ins (by decide) _ _ _ | refine and_congr ?_ ?_)) [] (by kernel_rfl) (by kernel_rfl) (Or.inl ⟨by rfl, ?_⟩) (by assumption) (fun hHeld' => ?_); rotate_left; (focus (intro w _; go_simp; try with_reducible rfl)); clear hHeld; have hHeld := hHeld'; clear hHeld'; (try simp only [Act.put, List.setIfInBounds_toArray, List.set_cons_zero, List.set_cons_succ])
            refine wpAnyD_take (i := 1) (oi := ⟨_, _, _, _, _, _⟩) (v := ?_) rfl (by kernel_rfl) (by kernel_rfl) (by kernel_rfl) (fun _ _ _ h => h) (by intro L w'; (try dsimp only); repeat (first | exact Iff.rfl | exact Till.ins (by decide) _ _ _ | refine and_congr ?_ ?_)) [] (by kernel_rfl) (by kernel_rfl) (Or.inl ⟨by rfl, ?_⟩) (by assumption) (fun hHeld' => ?_); rotate_left; (focus (intro w _; go_simp; try with_reducible rfl)); clear hHeld; have hHeld := hHeld'; clear hHeld'; (try simp only [Act.put, List.setIfInBounds_toArray, List.set_cons_zero, List.set_cons_succ])
            refine wpAnyD_take (i := 2) (oi := ⟨_, _, _, _, _, _⟩) (v := ?_) rfl (by kernel_rfl) (by kernel_rfl) (by kernel_rfl) (fun _ _ _ h => h) (by intro L w'; (try dsimp only); repeat (first | exact Iff.rfl | exact Till.ins (by decide) _ _ _ | refine and_congr ?_ ?_)) [] (by kernel_rfl) (by kernel_rfl) (Or.inl ⟨by rfl, ?_⟩) (by assumption) (fun hHeld' => ?_); rotate_left; (focus (intro w _; go_simp; try with_reducible rfl)); clear hHeld; have hHeld := hHeld'; clear hHeld'; (try simp only [Act.put, List.setIfInBounds_toArray, List.set_cons_zero, List.set_cons_succ])
            refine wpAnyD_take (i := 3) (oi := ⟨_, _, _, _, _, _⟩) (v := ?_) rfl (by kernel_rfl) (by kernel_rfl) (by kernel_rfl) (fun _ _ _ h => h) (by intro L w'; (try dsimp only); repeat (first | exact Iff.rfl | exact Till.ins (by decide) _ _ _ | refine and_congr ?_ ?_)) [] (by kernel_rfl) (by kernel_rfl) (Or.inl ⟨by rfl, ?_⟩) (by assumption) (fun hHeld' => ?_); rotate_left; (focus (intro w _; go_simp; try with_reducible rfl)); clear hHeld; have hHeld := hHeld'; clear hHeld'; (try simp only [Act.put, List.setIfInBounds_toArray, List.set_cons_zero, List.set_cons_succ])
            refine wpAnyD_take (i := 4) (oi := ⟨_, _, _, _, _, _⟩) (v := ?_) rfl (by kernel_rfl) (by kernel_rfl) (by kernel_rfl) (fun _ _ _ h => h) (by intro L w'; (try dsimp only); repeat (first | exact Iff.rfl | exact Till.ins (by decide) _ _ _ | refine and_congr ?_ ?_)) [7, 8, 9, 10] (by kernel_rfl) (by kernel_rfl) (Or.inl ⟨by rfl, ?_⟩) (by assumption) (fun hHeld' => ?_); rotate_left; (focus (intro w hSw0; obtain ⟨L, ho, hSw⟩ := hSw0; (try dsimp only at hSw); have HH := Till.of hSw ho rfl; have t3 : w.cell? ⟨B, 3, none⟩ = some (.slice sa sn sc) := HH.1.2.1 3; have n0 : w.cell? ⟨N0, 0, none⟩ = some (.int .i64 (H : Int)) := HH.2.2.1 0; have n1 : w.cell? ⟨N0, 1, none⟩ = some (.int .i64 (y : Int)) := HH.2.2.1 1; clear HH; clear ho hSw; go_simp; try with_reducible rfl)); clear hHeld; have hHeld := hHeld'; clear hHeld'; (try simp only [Act.put, List.setIfInBounds_toArray, List.set_cons_zero, List.set_cons_succ])
            refine wpAnyD_take (i := 5) (oi := ⟨_, _, _, _, _, _⟩) (v := ?_) rfl (by kernel_rfl) (by kernel_rfl) (by kernel_rfl) (fun _ _ _ h => h) (by intro L w'; (try dsimp only); repeat (first | exact Iff.rfl | exact Till.ins (by decide) _ _ _ | refine and_congr ?_ ?_)) [6, 8, 9, 10] (by kernel_rfl) (by kernel_rfl) (Or.inl ⟨by rfl, ?_⟩) (by assumption) (fun hHeld' => ?_); rotate_left; (focus (intro w hSw0; obtain ⟨L, ho, hSw⟩ := hSw0; (try dsimp only at hSw); have HH := Till.of hSw ho rfl; have t3 : w.cell? ⟨B, 3, none⟩ = some (.slice sa sn sc) := HH.1.2.1 3; have n0 : w.cell? ⟨N0, 0, none⟩ = some (.int .i64 (H : Int)) := HH.2.2.1 0; have n1 : w.cell? ⟨N0, 1, none⟩ = some (.int .i64 (y : Int)) := HH.2.2.1 1; clear HH; clear ho hSw; go_simp; try with_reducible rfl)); clear hHeld; have hHeld := hHeld'; clear hHeld'; (try simp only [Act.put, List.setIfInBounds_toArray, List.set_cons_zero, List.set_cons_succ])
            refine wpAnyD_ready (rs := [6]) (by kernel_rfl) (by simp) ?_
            refine AllReadyD.cons (o := ⟨_, _, _, _, _, _⟩) rfl (fun K hK => ?_) AllReadyD.nil
            go_simp
            refine hK.out _ _ (by exact (fun h => ⟨(hHeld h).1.alloc _, (hHeld h).2.alloc _⟩)) (fun hHeld' => ?_)
            clear hHeld hK K
            have hHeld := hHeld'
            clear hHeld'
            try simp only [Act.put, List.setIfInBounds_toArray, List.set_cons_zero, List.set_cons_succ]
            refine wpAnyD_ready (rs := [7]) (by kernel_rfl) (by simp) ?_
            refine AllReadyD.cons (o := ⟨_, _, _, _, _, _⟩) rfl (fun K hK => ?_) AllReadyD.nil
            refine step_app_sts rfl _ _ rfl KB (.slice sa sn sc) (stM H seen) rfl ((HIa.out.below hbd).below (below_allocP' _ _)).sts _ _ ((H : Int), (y : Int)) rfl (oneSt _ _ _ _) (by rw [stM_len]; have := Hsl.out; omega) (by have h1 := HIa.out.kw; simp; omega) ?_; intro a5 c5 x6 ho5 hg5 hl5; have HX5 := Lib.hid ho5; have HG5 := Lib.hid hg5; have HL5 := Lib.hid hl5; have hS' : ∀ L, Till 10 (fun w' => BoxIs w' B [.int .i64 H, .int .i64 H, .int .i64 m, .slice sa sn sc, tv', ov', .bool false] ∧ BoxIs w' N0 [.int .i64 H, .int .i64 y]) L x6 := fun _ _ => ⟨box_grown ((HIa.out.below hbd).below (below_allocP' _ _)).box hg5 HIa.out.sB, box_grown ((HNa.out.1.below hbd).alloc _) hg5 HNa.out.2.2.1⟩; clear ho5 hg5 hl5
            refine hK.out _ _ (by first | exact hS' | exact hS' _) (fun hHeld' => ?_)
            clear hHeld hK K
            have hHeld := hHeld'
            clear hHeld'
            try simp only [Act.put, List.setIfInBounds_toArray, List.set_cons_zero, List.set_cons_succ]
            refine wpAnyD_take (i := 8) (oi := ⟨_, _, _, _, _, _⟩) (v := ?_) rfl (by kernel_rfl) (by kernel_rfl) (by kernel_rfl) (fun _ _ _ h => h) (by intro L w'; (try dsimp only); repeat (first | exact Iff.rfl | exact Till.ins (by decide) _ _ _ | refine and_congr ?_ ?_)) [] (by kernel_rfl) (by kernel_rfl) (Or.inl ⟨by rfl, ?_⟩) (by assumption) (fun hHeld' => ?_); rotate_left; (focus (intro w _; go_simp; try with_reducible rfl)); clear hHeld; have hHeld := hHeld'; clear hHeld'; (try simp only [Act.put, List.setIfInBounds_toArray, List.set_cons_zero, List.set_cons_succ])
            refine wpAnyD_take (i := 9) (oi := ⟨_, _, _, _, _, _⟩) (v := ?_) rfl (by kernel_rfl) (by kernel_rfl) (by kernel_rfl) (fun _ _ _ h => h) (by intro L w'; (try dsimp only); repeat (first | exact Iff.rfl | exact Till.ins (by decide) _ _ _ | refine and_congr ?_ ?_)) [] (by kernel_rfl) (by kernel_rfl) (Or.inl ⟨by rfl, ?_⟩) (by assumption) (fun hHeld' => ?_); rotate_left; (focus (intro w _; go_simp; try with_reducible rfl)); clear hHeld; have hHeld := hHeld'; clear hHeld'; (try simp only [Act.put, List.setIfInBounds_toArray, List.set_cons_zero, List.set_cons_succ])
            refine wpAnyD_ready (rs := [10]) (by kernel_rfl) (by simp) ?_
            refine AllReadyD.cons (o := ⟨_, _, _, _, _, _⟩) rfl (fun K hK => ?_) AllReadyD.nil
            have g3 : x6.cell? ⟨B, 3, none⟩ = some (.slice sa sn sc) := (hHeld rfl).1.2.1 3; have gf3 : x6.frozen? ⟨B, 3, none⟩ = false := (hHeld rfl).1.2.2 3
            go_simp
            refine hK.out _ _ (by exact (fun h => absurd h (by decide))) (fun hHeld' => ?_)
            clear hHeld hK K
            have hHeld := hHeld'
            clear hHeld'
            try simp only [Act.put, List.setIfInBounds_toArray, List.set_cons_zero, List.set_cons_succ]
            refine wpAnyD_done (by kernel_rfl) ?_ _
            have hsl9 : (stM H seen).length = sn := by rw [stM_len]; exact HSn.out.symm
            have HI10 : Hid (WInv (x6.setCell ⟨B, 3, none⟩ (.slice a5 ((stM H seen).length + 1) c5)) KB B H m (.slice a5 ((stM H seen).length + 1) c5) tv' ov' false (seen ++ [y]) th ps') := Lib.hid (WInv.pushS ((HIa.out.below hbd).below (below_allocP' _ _)) (by have h := HX5.out; unfold stM at h ⊢; rw [List.map_append]; exact h) HG5.out HL5.out ⟨_, _, _, rfl⟩)
            have HKs : Hid (WKeep B (.slice sa sn sc) tv' (.slice a5 ((stM H seen).length + 1) c5) tv' w10 (x6.setCell ⟨B, 3, none⟩ (.slice a5 ((stM H seen).length + 1) c5))) := Lib.hid ((WKeep.of_below (Below.trans' hbd (below_allocP' _ _))).trans (WKeep.pushS HG5.out HL5.out 3 _))
            clear HX5 HG5 HL5 hHeld HIa
            generalize x6.setCell ⟨B, 3, none⟩ (.slice a5 ((stM H seen).length + 1) c5) = w11 at *
            rw [hsl9] at HI10 HKs ⊢
            have HX10 := Lib.hid (HXa.out.keep HKs.out)
            have HL10 := Lib.hid (HLa.out.keep HKs.out)
            have HN10 := Lib.hid (HNa.out.keep HKs.out)
            have HC10 := Lib.hid (HCa.out.keep HKs.out)
            have HK10 := Lib.hid (HKa.out.trans HKs.out)
            clear HXa HLa HNa HCa HKa HKs hbd hsl9
            obtain ⟨ta, tn, tc, rfl⟩ := HI10.out.tl
            have hbd : Below w11.heap.size w11 w11.drew := (Below.refl _ _).drew
            have HTn : Hid (tn = th.length) := Lib.hid (by obtain ⟨_, _, e⟩ := slice_of_own HI10.out.thr; injection e)
            go_wp2
            refine wp_region_dep (S := fun L w' => Till 13 (fun w' => BoxIs w' B [.int .i64 H, .int .i64 H, .int .i64 m, .slice a5 (sn + 1) c5, .slice ta tn tc, ov', .bool false] ∧ w'.cell? ⟨lb, lo + i, none⟩ = some (.int .i64 (t : Int))) L w') (by kernel_rfl) (by exact (fun _ => ⟨HI10.out.box.below hbd, cell_then HC10.out.2.1 HC10.out.1 hbd⟩)) (fun hHeld => ?_)
            refine wpAnyD_take (i := 0) (oi := ⟨_, _, _, _, _, _⟩) (v := ?_) rfl (by kernel_rfl) (by kernel_rfl) (by kernel_rfl) (fun _ _ _ h => h) (by intro L w'; (try dsimp only); repeat (first | exact Iff.rfl | exact Till.ins (by decide) _ _ _ | refine and_congr ?_ ?_)) [] (by kernel_rfl) (by kernel_rfl) (Or.inl ⟨by rfl, ?_⟩) (by assumption) (fun hHeld' => ?_); rotate_left; (focus (intro w _; go_simp; try with_reducible rfl)); clear hHeld; have hHeld := hHeld'; clear hHeld'; (try simp only [Act.put, List.setIfInBounds_toArray, List.set_cons_zero, List.set_cons_succ])
            refine wpAnyD_take (i := 1) (oi := ⟨_, _, _, _, _, _⟩) (v := ?_) rfl (by kernel_rfl) (by kernel_rfl) (by kernel_rfl) (fun _ _ _ h => h) (by intro L w'; (try dsimp only); repeat (first | exact Iff.rfl | exact Till.ins (by decide) _ _ _ | refine and_congr ?_ ?_)) [] (by kernel_rfl) (by kernel_rfl) (Or.inl ⟨by rfl, ?_⟩) (by assumption) (fun hHeld' => ?_); rotate_left; (focus (intro w _; go_simp; try with_reducible rfl)); clear hHeld; have hHeld := hHeld'; clear hHeld'; (try simp only [Act.put, List.setIfInBounds_toArray, List.set_cons_zero, List.set_cons_succ])
            refine wpAnyD_take (i := 2) (oi := ⟨_, _, _, _, _, _⟩) (v := ?_) rfl (by kernel_rfl) (by kernel_rfl) (by kernel_rfl) (fun _ _ _ h => h) (by intro L w'; (try dsimp only); repeat (first | exact Iff.rfl | exact Till.ins (by decide) _ _ _ | refine and_congr ?_ ?_)) [] (by kernel_rfl) (by kernel_rfl) (Or.inl ⟨by rfl, ?_⟩) (by assumption) (fun hHeld' => ?_); rotate_left; (focus (intro w _; go_simp; try with_reducible rfl)); clear hHeld; have hHeld := hHeld'; clear hHeld'; (try simp only [Act.put, List.setIfInBounds_toArray, List.set_cons_zero, List.set_cons_succ])
            refine wpAnyD_take (i := 3) (oi := ⟨_, _, _, _, _, _⟩) (v := ?_) rfl (by kernel_rfl) (by kernel_rfl) (by kernel_rfl) (fun _ _ _ h => h) (by intro L w'; (try dsimp only); repeat (first | exact Iff.rfl | exact Till.ins (by decide) _ _ _ | refine and_congr ?_ ?_)) [] (by kernel_rfl) (by kernel_rfl) (Or.inl ⟨by rfl, ?_⟩) (by assumption) (fun hHeld' => ?_); rotate_left; (focus (intro w _; go_simp; try with_reducible rfl)); clear hHeld; have hHeld := hHeld'; clear hHeld'; (try simp only [Act.put, List.setIfInBounds_toArray, List.set_cons_zero, List.set_cons_succ])
            refine wpAnyD_take (i := 4) (oi := ⟨_, _, _, _, _, _⟩) (v := ?_) rfl (by kernel_rfl) (by kernel_rfl) (by kernel_rfl) (fun _ _ _ h => h) (by intro L w'; (try dsimp only); repeat (first | exact Iff.rfl | exact Till.ins (by decide) _ _ _ | refine and_congr ?_ ?_)) [10, 11, 12, 13] (by kernel_rfl) (by kernel_rfl) (Or.inl ⟨by rfl, ?_⟩) (by assumption) (fun hHeld' => ?_); rotate_left; (focus (intro w hSw0; obtain ⟨L, ho, hSw⟩ := hSw0; (try dsimp only at hSw); have HH := Till.of hSw ho rfl; have t4 : w.cell? ⟨B, 4, none⟩ = some (.slice ta tn tc) := HH.1.2.1 4; have n0 := HH.2; clear HH; clear ho hSw; go_simp; try with_reducible rfl)); clear hHeld; have hHeld := hHeld'; clear hHeld'; (try simp only [Act.put, List.setIfInBounds_toArray, List.set_cons_zero, List.set_cons_succ])
            refine wpAnyD_take (i := 5) (oi := ⟨_, _, _, _, _, _⟩) (v := ?_) rfl (by kernel_rfl) (by kernel_rfl) (by kernel_rfl) (fun _ _ _ h => h) (by intro L w'; (try dsimp only); repeat (first | exact Iff.rfl | exact Till.ins (by decide) _ _ _ | refine and_congr ?_ ?_)) [] (by kernel_rfl) (by kernel_rfl) (Or.inl ⟨by rfl, ?_⟩) (by assumption) (fun hHeld' => ?_); rotate_left; (focus (intro w _; go_simp; try with_reducible rfl)); clear hHeld; have hHeld := hHeld'; clear hHeld'; (try simp only [Act.put, List.setIfInBounds_toArray, List.set_cons_zero, List.set_cons_succ])
            refine wpAnyD_take (i := 6) (oi := ⟨_, _, _, _, _, _⟩) (v := ?_) rfl (by kernel_rfl) (by kernel_rfl) (by kernel_rfl) (fun _ _ _ h => h) (by intro L w'; (try dsimp only); repeat (first | exact Iff.rfl | exact Till.ins (by decide) _ _ _ | refine and_congr ?_ ?_)) [] (by kernel_rfl) (by kernel_rfl) (Or.inl ⟨by rfl, ?_⟩) (by assumption) (fun hHeld' => ?_); rotate_left; (focus (intro w _; go_simp; try with_reducible rfl)); clear hHeld; have hHeld := hHeld'; clear hHeld'; (try simp only [Act.put, List.setIfInBounds_toArray, List.set_cons_zero, List.set_cons_succ])
            refine wpAnyD_take (i := 7) (oi := ⟨_, _, _, _, _, _⟩) (v := ?_) rfl (by kernel_rfl) (by kernel_rfl) (by kernel_rfl) (fun _ _ _ h => h) (by intro L w'; (try dsimp only); repeat (first | exact Iff.rfl | exact Till.ins (by decide) _ _ _ | refine and_congr ?_ ?_)) [] (by kernel_rfl) (by kernel_rfl) (Or.inl ⟨by rfl, ?_⟩) (by assumption) (fun hHeld' => ?_); rotate_left; (focus (intro w _; go_simp; try with_reducible rfl)); clear hHeld; have hHeld := hHeld'; clear hHeld'; (try simp only [Act.put, List.setIfInBounds_toArray, List.set_cons_zero, List.set_cons_succ])
            refine wpAnyD_take (i := 8) (oi := ⟨_, _, _, _, _, _⟩) (v := ?_) rfl (by kernel_rfl) (by kernel_rfl) (by kernel_rfl) (fun _ _ _ h => h) (by intro L w'; (try dsimp only); repeat (first | exact Iff.rfl | exact Till.ins (by decide) _ _ _ | refine and_congr ?_ ?_)) [9, 11, 12, 13] (by kernel_rfl) (by kernel_rfl) (Or.inl ⟨by rfl, ?_⟩) (by assumption) (fun hHeld' => ?_); rotate_left; (focus (intro w hSw0; obtain ⟨L, ho, hSw⟩ := hSw0; (try dsimp only at hSw); have HH := Till.of hSw ho rfl; have t4 : w.cell? ⟨B, 4, none⟩ = some (.slice ta tn tc) := HH.1.2.1 4; have n0 := HH.2; clear HH; clear ho hSw; go_simp; try with_reducible rfl)); clear hHeld; have hHeld := hHeld'; clear hHeld'; (try simp only [Act.put, List.setIfInBounds_toArray, List.set_cons_zero, List.set_cons_succ])
            refine wpAnyD_ready (rs := [9]) (by kernel_rfl) (by simp) ?_
            refine AllReadyD.cons (o := ⟨_, _, _, _, _, _⟩) rfl (fun K hK => ?_) AllReadyD.nil
            go_simp
            refine hK.out _ _ (by exact (fun h => ⟨(hHeld h).1.alloc _, cell_then (World.block_lt_of_cell? _ _ (hHeld h).2) (hHeld h).2 (below_allocP' _ _)⟩)) (fun hHeld' => ?_)
            clear hHeld hK K
            have hHeld := hHeld'
            clear hHeld'
            try simp only [Act.put, List.setIfInBounds_toArray, List.set_cons_zero, List.set_cons_succ]
            refine wpAnyD_ready (rs := [10]) (by kernel_rfl) (by simp) ?_
            refine AllReadyD.cons (o := ⟨_, _, _, _, _, _⟩) rfl (fun K hK => ?_) AllReadyD.nil
            refine step_app_intsI rfl _ _ rfl KB (.slice ta tn tc) th rfl ((HI10.out.below hbd).below (below_allocP' _ _)).thr _ 1 1 [(t : Int)] rfl rfl (ints_new _ _ _) (by have := Hth.out; simp; omega) (by have h1 := HI10.out.kw; simp; omega) ?_; intro a7 n7 c7 x8 ho7 hg7 hl7; have HX7 := Lib.hid ho7; have HG7 := Lib.hid hg7; have HL7 := Lib.hid hl7; have hS' : ∀ L, Till 13 (fun w' => BoxIs w' B [.int .i64 H, .int .i64 H, .int .i64 m, .slice a5 (sn + 1) c5, .slice ta tn tc, ov', .bool false] ∧ w'.cell? ⟨lb, lo + i, none⟩ = some (.int .i64 (t : Int))) L x8 := fun _ _ => ⟨box_grown ((HI10.out.below hbd).below (below_allocP' _ _)).box hg7 HI10.out.tB, (World.cell?_of_block (a := ⟨lb, lo + i, none⟩) (hg7.block lb (by have := HC10.out.2.1; simp; omega) (fun e => HC10.out.2.2.2.2 e.symm))).trans (cell_then (World.block_lt_of_cell? _ _ (cell_then HC10.out.2.1 HC10.out.1 hbd)) (cell_then HC10.out.2.1 HC10.out.1 hbd) (below_allocP' _ _))⟩; clear ho7 hg7 hl7
            refine hK.out _ _ (by first | exact hS' | exact hS' _) (fun hHeld' => ?_)
            clear hHeld hK K
            have hHeld := hHeld'
            clear hHeld'
            try simp only [Act.put, List.setIfInBounds_toArray, List.set_cons_zero, List.set_cons_succ]
            refine wpAnyD_take (i := 11) (oi := ⟨_, _, _, _, _, _⟩) (v := ?_) rfl (by kernel_rfl) (by kernel_rfl) (by kernel_rfl) (fun _ _ _ h => h) (by intro L w'; (try dsimp only); repeat (first | exact Iff.rfl | exact Till.ins (by decide) _ _ _ | refine and_congr ?_ ?_)) [] (by kernel_rfl) (by kernel_rfl) (Or.inl ⟨by rfl, ?_⟩) (by assumption) (fun hHeld' => ?_); rotate_left; (focus (intro w _; go_simp; try with_reducible rfl)); clear hHeld; have hHeld := hHeld'; clear hHeld'; (try simp only [Act.put, List.setIfInBounds_toArray, List.set_cons_zero, List.set_cons_succ])
            refine wpAnyD_take (i := 12) (oi := ⟨_, _, _, _, _, _⟩) (v := ?_) rfl (by kernel_rfl) (by kernel_rfl) (by kernel_rfl) (fun _ _ _ h => h) (by intro L w'; (try dsimp only); repeat (first | exact Iff.rfl | exact Till.ins (by decide) _ _ _ | refine and_congr ?_ ?_)) [] (by kernel_rfl) (by kernel_rfl) (Or.inl ⟨by rfl, ?_⟩) (by assumption) (fun hHeld' => ?_); rotate_left; (focus (intro w _; go_simp; try with_reducible rfl)); clear hHeld; have hHeld := hHeld'; clear hHeld'; (try simp only [Act.put, List.setIfInBounds_toArray, List.set_cons_zero, List.set_cons_succ])
            refine wpAnyD_ready (rs := [13]) (by kernel_rfl) (by simp) ?_
            refine AllReadyD.cons (o := ⟨_, _, _, _, _, _⟩) rfl (fun K hK => ?_) AllReadyD.nil
            have g3 : x8.cell? ⟨B, 4, none⟩ = some (.slice ta tn tc) := (hHeld rfl).1.2.1 4; have gf3 : x8.frozen? ⟨B, 4, none⟩ = false := (hHeld rfl).1.2.2 4
            go_simp
            refine hK.out _ _ (by exact (fun h => absurd h (by decide))) (fun hHeld' => ?_)
            clear hHeld hK K
            have hHeld := hHeld'
            clear hHeld'
            try simp only [Act.put, List.setIfInBounds_toArray, List.set_cons_zero, List.set_cons_succ]
            refine wpAnyD_done (by kernel_rfl) ?_ _
            have HI12 : Hid (WInv (x8.setCell ⟨B, 4, none⟩ (.slice a7 n7 c7)) KB B H m (.slice a5 (sn + 1) c5) (.slice a7 n7 c7) ov' false (seen ++ [y]) (th ++ [(t : Int)]) ps') := Lib.hid (WInv.pushT ((HI10.out.below hbd).below (below_allocP' _ _)) HX7.out HG7.out HL7.out ⟨_, _, _, rfl⟩)
            have HKs : Hid (WKeep B (.slice a5 (sn + 1) c5) (.slice ta tn tc) (.slice a5 (sn + 1) c5) (.slice a7 n7 c7) w11 (x8.setCell ⟨B, 4, none⟩ (.slice a7 n7 c7))) := Lib.hid ((WKeep.of_below (Below.trans' hbd (below_allocP' _ _))).trans (WKeep.pushT HG7.out HL7.out 4 _))
            clear HX7 HG7 HL7 hHeld HI10
            generalize x8.setCell ⟨B, 4, none⟩ (.slice a7 n7 c7) = w12 at *
            have HX12 := Lib.hid (HX10.out.keep HKs.out)
            have HL12 := Lib.hid (HL10.out.keep HKs.out)
            have HN12 := Lib.hid (HN10.out.keep HKs.out)
            have HK12 := Lib.hid (HK10.out.trans HKs.out)
            clear HX10 HL10 HN10 HC10 HK10 HKs hbd
            have HRec := Lib.hid (IH.out y (seen ++ [y]) (th ++ [(t : Int)]) w12 _ _ _ ps' hy (by have := Hsl.out; simp; omega) (by have := Hth.out; simp; omega) HI12.out)
            have n0 : w12.cell? ⟨N0, 0, none⟩ = some (.int .i64 (H : Int)) := HN12.out.1.2.1 0
            have n1 : w12.cell? ⟨N0, 1, none⟩ = some (.int .i64 (y : Int)) := HN12.out.1.2.1 1
            have hwl : IntKind.i64.wrap ((d : Int) + 1 - 1) = (d : Int) := by rw [IntWalk.i64_in _ (by omega)]; omega
            have hwl2 : IntKind.i64.wrap (d : Int) = (d : Int) := IntWalk.i64_in _ (by omega)
            generalize wS H m d y (seen ++ [y]) (th ++ [(t : Int)]) (ps'.map (·.2), false) = R9 at *
            clear HI12
            go_wp2_with fail
            refine HRec.out.mono ?_
            rintro e w13 ⟨rfl, sv3, tv3, ov3, full3, ps3, hI3, hR3, hK3⟩
            have HX13 := Lib.hid (HX12.out.keep hK3)
            have HL13 := Lib.hid (HL12.out.keep hK3)
            have HK13 := Lib.hid (HK12.out.trans hK3)
            have HR3 := Lib.hid hR3
            have hl3 : (stM H (seen ++ [y])).length = sn + 1 := by rw [stM_len, List.length_append, HSn.out]; rfl
            obtain ⟨sa3, sn3, sc3, rfl⟩ := hI3.ss
            have hsn3 : sn3 = sn + 1 := by rw [← hl3]; exact sts_len hI3.sts
            subst hsn3
            obtain ⟨sg3, rfl, -, -⟩ := sts_head hI3.sts (by omega)
            obtain ⟨ta3, tn3, tc3, rfl⟩ := hI3.tl
            have htn3 : tn3 = tn + 1 := by
              obtain ⟨_, _, e⟩ := slice_of_own hI3.thr
              injection e with _ e2 _
              rw [e2, HTn.out]; simp
            subst htn3
            obtain ⟨tg3, rfl⟩ : ∃ g, ta3 = some ⟨g, 0, none⟩ := by
              obtain ⟨g, cap, e, _, _⟩ := hI3.thr.form (by simp)
              injection e with e1
              exact ⟨g, e1⟩
            have hcapt : tn ≤ tc3 := by
              rcases hI3.thr.2 with ⟨e, _⟩ | ⟨g, cap, cur, e, _, _, hnc, _⟩
              · cases e
              · injection e with _ _ e3; subst e3; rw [HTn.out]; simp at hnc; omega
            have hcaps : sn ≤ sc3 := by
              rcases hI3.sts.2 with ⟨e, _⟩ | ⟨g, cap, cur, e, _, _, hnc, _⟩
              · cases e
              · injection e with _ _ e3; subst e3; rw [hl3] at hnc; omega
            have HI13 := Lib.hid hI3
            clear hI3 hR3 hK3 HX12 HL12 HN12 HK12 HRec n0 n1 hl3
            have hwt : IntKind.i64.wrap (tn : Int) = (tn : Int) := IntWalk.i64_in _ (by have := Hth.out; have h2 := HTn.out; omega)
            have hws : IntKind.i64.wrap (sn : Int) = (sn : Int) := IntWalk.i64_in _ (by have := Hsl.out; have h2 := HSn.out; omega)
            have hit0 : (0 : Int) ≤ (tn : Int) := by omega
            have hit1 : (tn : Int) ≤ (tc3 : Int) := by omega
            have his0 : (0 : Int) ≤ (sn : Int) := by omega
            have his1 : (sn : Int) ≤ (sc3 : Int) := by omega
            have hbd : Below w13.heap.size w13 w13.drew := (Below.refl _ _).drew
            go_wp2
            refine wp_region_dep (S := fun L w' => Till 14 (fun w' => BoxIs w' B [.int .i64 H, .int .i64 H, .int .i64 m, .slice (some ⟨sg3, 0, none⟩) (sn + 1) sc3, .slice (some ⟨tg3, 0, none⟩) (tn + 1) tc3, ov3, .bool full3]) L w') (by kernel_rfl) (by exact (fun _ => HI13.out.box.below hbd)) (fun hHeld => ?_)
            refine wpAnyD_take (i := 0) (oi := ⟨_, _, _, _, _, _⟩) (v := ?_) rfl (by kernel_rfl) (by kernel_rfl) (by kernel_rfl) (fun _ _ _ h => h) (by intro L w'; (try dsimp only); repeat (first | exact Iff.rfl | exact Till.ins (by decide) _ _ _ | refine and_congr ?_ ?_)) [] (by kernel_rfl) (by kernel_rfl) (Or.inl ⟨by rfl, ?_⟩) (by assumption) (fun hHeld' => ?_); rotate_left; (focus (intro w _; go_simp; try with_reducible rfl)); clear hHeld; have hHeld := hHeld'; clear hHeld'; (try simp only [Act.put, List.setIfInBounds_toArray, List.set_cons_zero, List.set_cons_succ])
            refine wpAnyD_take (i := 1) (oi := ⟨_, _, _, _, _, _⟩) (v := ?_) rfl (by kernel_rfl) (by kernel_rfl) (by kernel_rfl) (fun _ _ _ h => h) (by intro L w'; (try dsimp only); repeat (first | exact Iff.rfl | exact Till.ins (by decide) _ _ _ | refine and_congr ?_ ?_)) [] (by kernel_rfl) (by kernel_rfl) (Or.inl ⟨by rfl, ?_⟩) (by assumption) (fun hHeld' => ?_); rotate_left; (focus (intro w _; go_simp; try with_reducible rfl)); clear hHeld; have hHeld := hHeld'; clear hHeld'; (try simp only [Act.put, List.setIfInBounds_toArray, List.set_cons_zero, List.set_cons_succ])
            refine wpAnyD_take (i := 2) (oi := ⟨_, _, _, _, _, _⟩) (v := ?_) rfl (by kernel_rfl) (by kernel_rfl) (by kernel_rfl) (fun _ _ _ h => h) (by intro L w'; (try dsimp only); repeat (first | exact Iff.rfl | exact Till.ins (by decide) _ _ _ | refine and_congr ?_ ?_)) [] (by kernel_rfl) (by kernel_rfl) (Or.inl ⟨by rfl, ?_⟩) (by assumption) (fun hHeld' => ?_); rotate_left; (focus (intro w _; go_simp; try with_reducible rfl)); clear hHeld; have hHeld := hHeld'; clear hHeld'; (try simp only [Act.put, List.setIfInBounds_toArray, List.set_cons_zero, List.set_cons_succ])
            refine wpAnyD_take (i := 3) (oi := ⟨_, _, _, _, _, _⟩) (v := ?_) rfl (by kernel_rfl) (by kernel_rfl) (by kernel_rfl) (fun _ _ _ h => h) (by intro L w'; (try dsimp only); repeat (first | exact Iff.rfl | exact Till.ins (by decide) _ _ _ | refine and_congr ?_ ?_)) [] (by kernel_rfl) (by kernel_rfl) (Or.inl ⟨by rfl, ?_⟩) (by assumption) (fun hHeld' => ?_); rotate_left; (focus (intro w _; go_simp; try with_reducible rfl)); clear hHeld; have hHeld := hHeld'; clear hHeld'; (try simp only [Act.put, List.setIfInBounds_toArray, List.set_cons_zero, List.set_cons_succ])
            refine wpAnyD_take (i := 4) (oi := ⟨_, _, _, _, _, _⟩) (v := ?_) rfl (by kernel_rfl) (by kernel_rfl) (by kernel_rfl) (fun _ _ _ h => h) (by intro L w'; (try dsimp only); repeat (first | exact Iff.rfl | exact Till.ins (by decide) _ _ _ | refine and_congr ?_ ?_)) [11, 12, 13, 14] (by kernel_rfl) (by kernel_rfl) (Or.inl ⟨by rfl, ?_⟩) (by assumption) (fun hHeld' => ?_); rotate_left; (focus (intro w hSw0; obtain ⟨L, ho, hSw⟩ := hSw0; (try dsimp only at hSw); have HH := Till.of hSw ho rfl; have t4 : w.cell? ⟨B, 4, none⟩ = some (.slice (some ⟨tg3, 0, none⟩) (tn + 1) tc3) := HH.2.1 4; clear HH; clear ho hSw; go_simp; try with_reducible rfl)); clear hHeld; have hHeld := hHeld'; clear hHeld'; (try simp only [Act.put, List.setIfInBounds_toArray, List.set_cons_zero, List.set_cons_succ])
            refine wpAnyD_take (i := 5) (oi := ⟨_, _, _, _, _, _⟩) (v := ?_) rfl (by kernel_rfl) (by kernel_rfl) (by kernel_rfl) (fun _ _ _ h => h) (by intro L w'; (try dsimp only); repeat (first | exact Iff.rfl | exact Till.ins (by decide) _ _ _ | refine and_congr ?_ ?_)) [] (by kernel_rfl) (by kernel_rfl) (Or.inl ⟨by rfl, ?_⟩) (by assumption) (fun hHeld' => ?_); rotate_left; (focus (intro w _; go_simp; try with_reducible rfl)); clear hHeld; have hHeld := hHeld'; clear hHeld'; (try simp only [Act.put, List.setIfInBounds_toArray, List.set_cons_zero, List.set_cons_succ])
            refine wpAnyD_take (i := 6) (oi := ⟨_, _, _, _, _, _⟩) (v := ?_) rfl (by kernel_rfl) (by kernel_rfl) (by kernel_rfl) (fun _ _ _ h => h) (by intro L w'; (try dsimp only); repeat (first | exact Iff.rfl | exact Till.ins (by decide) _ _ _ | refine and_congr ?_ ?_)) [] (by kernel_rfl) (by kernel_rfl) (Or.inl ⟨by rfl, ?_⟩) (by assumption) (fun hHeld' => ?_); rotate_left; (focus (intro w _; go_simp; try with_reducible rfl)); clear hHeld; have hHeld := hHeld'; clear hHeld'; (try simp only [Act.put, List.setIfInBounds_toArray, List.set_cons_zero, List.set_cons_succ])
            refine wpAnyD_take (i := 7) (oi := ⟨_, _, _, _, _, _⟩) (v := ?_) rfl (by kernel_rfl) (by kernel_rfl) (by kernel_rfl) (fun _ _ _ h => h) (by intro L w'; (try dsimp only); repeat (first | exact Iff.rfl | exact Till.ins (by decide) _ _ _ | refine and_congr ?_ ?_)) [] (by kernel_rfl) (by kernel_rfl) (Or.inl ⟨by rfl, ?_⟩) (by assumption) (fun hHeld' => ?_); rotate_left; (focus (intro w _; go_simp; try with_reducible rfl)); clear hHeld; have hHeld := hHeld'; clear hHeld'; (try simp only [Act.put, List.setIfInBounds_toArray, List.set_cons_zero, List.set_cons_succ])
            refine wpAnyD_take (i := 8) (oi := ⟨_, _, _, _, _, _⟩) (v := ?_) rfl (by kernel_rfl) (by kernel_rfl) (by kernel_rfl) (fun _ _ _ h => h) (by intro L w'; (try dsimp only); repeat (first | exact Iff.rfl | exact Till.ins (by decide) _ _ _ | refine and_congr ?_ ?_)) [9, 12, 13, 14] (by kernel_rfl) (by kernel_rfl) (Or.inl ⟨by rfl, ?_⟩) (by assumption) (fun hHeld' => ?_); rotate_left; (focus (intro w hSw0; obtain ⟨L, ho, hSw⟩ := hSw0; (try dsimp only at hSw); have HH := Till.of hSw ho rfl; have t4 : w.cell? ⟨B, 4, none⟩ = some (.slice (some ⟨tg3, 0, none⟩) (tn + 1) tc3) := HH.2.1 4; clear HH; clear ho hSw; go_simp; try with_reducible rfl)); clear hHeld; have hHeld := hHeld'; clear hHeld'; (try simp only [Act.put, List.setIfInBounds_toArray, List.set_cons_zero, List.set_cons_succ])
            refine wpAnyD_take (i := 9) (oi := ⟨_, _, _, _, _, _⟩) (v := ?_) rfl (by kernel_rfl) (by kernel_rfl) (by kernel_rfl) (fun _ _ _ h => h) (by intro L w'; (try dsimp only); repeat (first | exact Iff.rfl | exact Till.ins (by decide) _ _ _ | refine and_congr ?_ ?_)) [] (by kernel_rfl) (by kernel_rfl) (Or.inl ⟨by rfl, ?_⟩) (by assumption) (fun hHeld' => ?_); rotate_left; (focus (intro w _; go_simp; try with_reducible rfl)); clear hHeld; have hHeld := hHeld'; clear hHeld'; (try simp only [Act.put, List.setIfInBounds_toArray, List.set_cons_zero, List.set_cons_succ])
            refine wpAnyD_take (i := 10) (oi := ⟨_, _, _, _, _, _⟩) (v := ?_) rfl (by kernel_rfl) (by kernel_rfl) (by kernel_rfl) (fun _ _ _ h => h) (by intro L w'; (try dsimp only); repeat (first | exact Iff.rfl | exact Till.ins (by decide) _ _ _ | refine and_congr ?_ ?_)) [] (by kernel_rfl) (by kernel_rfl) (Or.inl ⟨by rfl, ?_⟩) (by assumption) (fun hHeld' => ?_); rotate_left; (focus (intro w _; go_simp; try with_reducible rfl)); clear hHeld; have hHeld := hHeld'; clear hHeld'; (try simp only [Act.put, List.setIfInBounds_toArray, List.set_cons_zero, List.set_cons_succ])
            refine wpAnyD_take (i := 11) (oi := ⟨_, _, _, _, _, _⟩) (v := ?_) rfl (by kernel_rfl) (by kernel_rfl) (by kernel_rfl) (fun _ _ _ h => h) (by intro L w'; (try dsimp only); repeat (first | exact Iff.rfl | exact Till.ins (by decide) _ _ _ | refine and_congr ?_ ?_)) [] (by kernel_rfl) (by kernel_rfl) (Or.inl ⟨by rfl, ?_⟩) (by assumption) (fun hHeld' => ?_); rotate_left; (focus (intro w _; go_simp; try with_reducible rfl)); clear hHeld; have hHeld := hHeld'; clear hHeld'; (try simp only [Act.put, List.setIfInBounds_toArray, List.set_cons_zero, List.set_cons_succ])
            refine wpAnyD_take (i := 12) (oi := ⟨_, _, _, _, _, _⟩) (v := ?_) rfl (by kernel_rfl) (by kernel_rfl) (by kernel_rfl) (fun _ _ _ h => h) (by intro L w'; (try dsimp only); repeat (first | exact Iff.rfl | exact Till.ins (by decide) _ _ _ | refine and_congr ?_ ?_)) [] (by kernel_rfl) (by kernel_rfl) (Or.inl ⟨by rfl, ?_⟩) (by assumption) (fun hHeld' => ?_); rotate_left; (focus (intro w _; go_simp; try with_reducible rfl)); clear hHeld; have hHeld := hHeld'; clear hHeld'; (try simp only [Act.put, List.setIfInBounds_toArray, List.set_cons_zero, List.set_cons_succ])
            refine wpAnyD_take (i := 13) (oi := ⟨_, _, _, _, _, _⟩) (v := ?_) rfl (by kernel_rfl) (by kernel_rfl) (by kernel_rfl) (fun _ _ _ h => h) (by intro L w'; (try dsimp only); repeat (first | exact Iff.rfl | exact Till.ins (by decide) _ _ _ | refine and_congr ?_ ?_)) [] (by kernel_rfl) (by kernel_rfl) (Or.inl ⟨by rfl, ?_⟩) (by assumption) (fun hHeld' => ?_); rotate_left; (focus (intro w _; go_simp; try with_reducible rfl)); clear hHeld; have hHeld := hHeld'; clear hHeld'; (try simp only [Act.put, List.setIfInBounds_toArray, List.set_cons_zero, List.set_cons_succ])
            refine wpAnyD_ready (rs := [14]) (by kernel_rfl) (by simp) ?_
            refine AllReadyD.cons (o := ⟨_, _, _, _, _, _⟩) rfl (fun K hK => ?_) AllReadyD.nil
            have g3 : w13.drew.cell? ⟨B, 4, none⟩ = some (.slice (some ⟨tg3, 0, none⟩) (tn + 1) tc3) := (hHeld rfl).2.1 4; have gf3 : w13.drew.frozen? ⟨B, 4, none⟩ = false := (hHeld rfl).2.2 4
            go_simp
            refine hK.out _ _ (by exact (fun h => absurd h (by decide))) (fun hHeld' => ?_)
            clear hHeld hK K
            have hHeld := hHeld'
            clear hHeld'
            try simp only [Act.put, List.setIfInBounds_toArray, List.set_cons_zero, List.set_cons_succ]
            refine wpAnyD_done (by kernel_rfl) ?_ _
            have HI14 : Hid (WInv ((w13.setCell ⟨B, 4, none⟩ (.slice (some ⟨tg3, 0, none⟩) tn tc3)).drew) KB B H m (.slice (some ⟨sg3, 0, none⟩) (sn + 1) sc3) (.slice (some ⟨tg3, 0, none⟩) tn tc3) ov3 full3 (seen ++ [y]) th ps3) := Lib.hid (by
              have h := (WInv.popT HI13.out tn (by rw [HTn.out]; simp)).below (Below.drew (Below.refl _ _))
              rw [List.take_left' HTn.out.symm] at h
              exact h)
            have HKs : Hid (WKeep B (.slice (some ⟨sg3, 0, none⟩) (sn + 1) sc3) (.slice (some ⟨tg3, 0, none⟩) (tn + 1) tc3) (.slice (some ⟨sg3, 0, none⟩) (sn + 1) sc3) (.slice (some ⟨tg3, 0, none⟩) tn tc3) w13 ((w13.setCell ⟨B, 4, none⟩ (.slice (some ⟨tg3, 0, none⟩) tn tc3)).drew)) := Lib.hid ((WKeep.pop (sv := .slice (some ⟨sg3, 0, none⟩) (sn + 1) sc3) (tv := .slice (some ⟨tg3, 0, none⟩) (tn + 1) tc3) (sv' := .slice (some ⟨sg3, 0, none⟩) (sn + 1) sc3) (tv' := .slice (some ⟨tg3, 0, none⟩) tn tc3) (fun _ h => h) (fun _ h => h) 4 (.slice (some ⟨tg3, 0, none⟩) tn tc3)).trans (WKeep.of_below (w := w13.setCell ⟨B, 4, none⟩ (.slice (some ⟨tg3, 0, none⟩) tn tc3)) (Below.drew (Below.refl _ _))))
            have HX14 := Lib.hid (HX13.out.keep HKs.out)
            have HL14 := Lib.hid (HL13.out.keep HKs.out)
            have HK14 := Lib.hid (HK13.out.trans HKs.out)
            have hwD : ((w13.drew.setCell ⟨B, 4, none⟩ (.slice (some ⟨tg3, 0, none⟩) tn tc3))) = ((w13.setCell ⟨B, 4, none⟩ (.slice (some ⟨tg3, 0, none⟩) tn tc3)).drew) := rfl
            try rw [hwD]
            clear HKs hHeld HI13 HX13 HL13 HK13 hbd hwD
            generalize ((w13.setCell ⟨B, 4, none⟩ (.slice (some ⟨tg3, 0, none⟩) tn tc3)).drew) = w14 at *
            have hbd : Below w14.heap.size w14 w14.drew := (Below.refl _ _).drew
            go_wp2
            refine wp_region_dep (S := fun L w' => Till 14 (fun w' => BoxIs w' B [.int .i64 H, .int .i64 H, .int .i64 m, .slice (some ⟨sg3, 0, none⟩) (sn + 1) sc3, .slice (some ⟨tg3, 0, none⟩) tn tc3, ov3, .bool full3]) L w') (by kernel_rfl) (by exact (fun _ => HI14.out.box.below hbd)) (fun hHeld => ?_)
            refine wpAnyD_take (i := 0) (oi := ⟨_, _, _, _, _, _⟩) (v := ?_) rfl (by kernel_rfl) (by kernel_rfl) (by kernel_rfl) (fun _ _ _ h => h) (by intro L w'; (try dsimp only); repeat (first | exact Iff.rfl | exact Till.ins (by decide) _ _ _ | refine and_congr ?_ ?_)) [] (by kernel_rfl) (by kernel_rfl) (Or.inl ⟨by rfl, ?_⟩) (by assumption) (fun hHeld' => ?_); rotate_left; (focus (intro w _; go_simp; try with_reducible rfl)); clear hHeld; have hHeld := hHeld'; clear hHeld'; (try simp only [Act.put, List.setIfInBounds_toArray, List.set_cons_zero, List.set_cons_succ])
            refine wpAnyD_take (i := 1) (oi := ⟨_, _, _, _, _, _⟩) (v := ?_) rfl (by kernel_rfl) (by kernel_rfl) (by kernel_rfl) (fun _ _ _ h => h) (by intro L w'; (try dsimp only); repeat (first | exact Iff.rfl | exact Till.ins (by decide) _ _ _ | refine and_congr ?_ ?_)) [] (by kernel_rfl) (by kernel_rfl) (Or.inl ⟨by rfl, ?_⟩) (by assumption) (fun hHeld' => ?_); rotate_left; (focus (intro w _; go_simp; try with_reducible rfl)); clear hHeld; have hHeld := hHeld'; clear hHeld'; (try simp only [Act.put, List.setIfInBounds_toArray, List.set_cons_zero, List.set_cons_succ])
            refine wpAnyD_take (i := 2) (oi := ⟨_, _, _, _, _, _⟩) (v := ?_) rfl (by kernel_rfl) (by kernel_rfl) (by kernel_rfl) (fun _ _ _ h => h) (by intro L w'; (try dsimp only); repeat (first | exact Iff.rfl | exact Till.ins (by decide) _ _ _ | refine and_congr ?_ ?_)) [] (by kernel_rfl) (by kernel_rfl) (Or.inl ⟨by rfl, ?_⟩) (by assumption) (fun hHeld' => ?_); rotate_left; (focus (intro w _; go_simp; try with_reducible rfl)); clear hHeld; have hHeld := hHeld'; clear hHeld'; (try simp only [Act.put, List.setIfInBounds_toArray, List.set_cons_zero, List.set_cons_succ])
            refine wpAnyD_take (i := 3) (oi := ⟨_, _, _, _, _, _⟩) (v := ?_) rfl (by kernel_rfl) (by kernel_rfl) (by kernel_rfl) (fun _ _ _ h => h) (by intro L w'; (try dsimp only); repeat (first | exact Iff.rfl | exact Till.ins (by decide) _ _ _ | refine and_congr ?_ ?_)) [] (by kernel_rfl) (by kernel_rfl) (Or.inl ⟨by rfl, ?_⟩) (by assumption) (fun hHeld' => ?_); rotate_left; (focus (intro w _; go_simp; try with_reducible rfl)); clear hHeld; have hHeld := hHeld'; clear hHeld'; (try simp only [Act.put, List.setIfInBounds_toArray, List.set_cons_zero, List.set_cons_succ])
            refine wpAnyD_take (i := 4) (oi := ⟨_, _, _, _, _, _⟩) (v := ?_) rfl (by kernel_rfl) (by kernel_rfl) (by kernel_rfl) (fun _ _ _ h => h) (by intro L w'; (try dsimp only); repeat (first | exact Iff.rfl | exact Till.ins (by decide) _ _ _ | refine and_congr ?_ ?_)) [11, 12, 13, 14] (by kernel_rfl) (by kernel_rfl) (Or.inl ⟨by rfl, ?_⟩) (by assumption) (fun hHeld' => ?_); rotate_left; (focus (intro w hSw0; obtain ⟨L, ho, hSw⟩ := hSw0; (try dsimp only at hSw); have HH := Till.of hSw ho rfl; have t4 : w.cell? ⟨B, 3, none⟩ = some (.slice (some ⟨sg3, 0, none⟩) (sn + 1) sc3) := HH.2.1 3; clear HH; clear ho hSw; go_simp; try with_reducible rfl)); clear hHeld; have hHeld := hHeld'; clear hHeld'; (try simp only [Act.put, List.setIfInBounds_toArray, List.set_cons_zero, List.set_cons_succ])
            refine wpAnyD_take (i := 5) (oi := ⟨_, _, _, _, _, _⟩) (v := ?_) rfl (by kernel_rfl) (by kernel_rfl) (by kernel_rfl) (fun _ _ _ h => h) (by intro L w'; (try dsimp only); repeat (first | exact Iff.rfl | exact Till.ins (by decide) _ _ _ | refine and_congr ?_ ?_)) [] (by kernel_rfl) (by kernel_rfl) (Or.inl ⟨by rfl, ?_⟩) (by assumption) (fun hHeld' => ?_); rotate_left; (focus (intro w _; go_simp; try with_reducible rfl)); clear hHeld; have hHeld := hHeld'; clear hHeld'; (try simp only [Act.put, List.setIfInBounds_toArray, List.set_cons_zero, List.set_cons_succ])
            refine wpAnyD_take (i := 6) (oi := ⟨_, _, _, _, _, _⟩) (v := ?_) rfl (by kernel_rfl) (by kernel_rfl) (by kernel_rfl) (fun _ _ _ h => h) (by intro L w'; (try dsimp only); repeat (first | exact Iff.rfl | exact Till.ins (by decide) _ _ _ | refine and_congr ?_ ?_)) [] (by kernel_rfl) (by kernel_rfl) (Or.inl ⟨by rfl, ?_⟩) (by assumption) (fun hHeld' => ?_); rotate_left; (focus (intro w _; go_simp; try with_reducible rfl)); clear hHeld; have hHeld := hHeld'; clear hHeld'; (try simp only [Act.put, List.setIfInBounds_toArray, List.set_cons_zero, List.set_cons_succ])
            refine wpAnyD_take (i := 7) (oi := ⟨_, _, _, _, _, _⟩) (v := ?_) rfl (by kernel_rfl) (by kernel_rfl) (by kernel_rfl) (fun _ _ _ h => h) (by intro L w'; (try dsimp only); repeat (first | exact Iff.rfl | exact Till.ins (by decide) _ _ _ | refine and_congr ?_ ?_)) [] (by kernel_rfl) (by kernel_rfl) (Or.inl ⟨by rfl, ?_⟩) (by assumption) (fun hHeld' => ?_); rotate_left; (focus (intro w _; go_simp; try with_reducible rfl)); clear hHeld; have hHeld := hHeld'; clear hHeld'; (try simp only [Act.put, List.setIfInBounds_toArray, List.set_cons_zero, List.set_cons_succ])
            refine wpAnyD_take (i := 8) (oi := ⟨_, _, _, _, _, _⟩) (v := ?_) rfl (by kernel_rfl) (by kernel_rfl) (by kernel_rfl) (fun _ _ _ h => h) (by intro L w'; (try dsimp only); repeat (first | exact Iff.rfl | exact Till.ins (by decide) _ _ _ | refine and_congr ?_ ?_)) [9, 12, 13, 14] (by kernel_rfl) (by kernel_rfl) (Or.inl ⟨by rfl, ?_⟩) (by assumption) (fun hHeld' => ?_); rotate_left; (focus (intro w hSw0; obtain ⟨L, ho, hSw⟩ := hSw0; (try dsimp only at hSw); have HH := Till.of hSw ho rfl; have t4 : w.cell? ⟨B, 3, none⟩ = some (.slice (some ⟨sg3, 0, none⟩) (sn + 1) sc3) := HH.2.1 3; clear HH; clear ho hSw; go_simp; try with_reducible rfl)); clear hHeld; have hHeld := hHeld'; clear hHeld'; (try simp only [Act.put, List.setIfInBounds_toArray, List.set_cons_zero, List.set_cons_succ])
            refine wpAnyD_take (i := 9) (oi := ⟨_, _, _, _, _, _⟩) (v := ?_) rfl (by kernel_rfl) (by kernel_rfl) (by kernel_rfl) (fun _ _ _ h => h) (by intro L w'; (try dsimp only); repeat (first | exact Iff.rfl | exact Till.ins (by decide) _ _ _ | refine and_congr ?_ ?_)) [] (by kernel_rfl) (by kernel_rfl) (Or.inl ⟨by rfl, ?_⟩) (by assumption) (fun hHeld' => ?_); rotate_left; (focus (intro w _; go_simp; try with_reducible rfl)); clear hHeld; have hHeld := hHeld'; clear hHeld'; (try simp only [Act.put, List.setIfInBounds_toArray, List.set_cons_zero, List.set_cons_succ])
            refine wpAnyD_take (i := 10) (oi := ⟨_, _, _, _, _, _⟩) (v := ?_) rfl (by kernel_rfl) (by kernel_rfl) (by kernel_rfl) (fun _ _ _ h => h) (by intro L w'; (try dsimp only); repeat (first | exact Iff.rfl | exact Till.ins (by decide) _ _ _ | refine and_congr ?_ ?_)) [] (by kernel_rfl) (by kernel_rfl) (Or.inl ⟨by rfl, ?_⟩) (by assumption) (fun hHeld' => ?_); rotate_left; (focus (intro w _; go_simp; try with_reducible rfl)); clear hHeld; have hHeld := hHeld'; clear hHeld'; (try simp only [Act.put, List.setIfInBounds_toArray, List.set_cons_zero, List.set_cons_succ])
            refine wpAnyD_take (i := 11) (oi := ⟨_, _, _, _, _, _⟩) (v := ?_) rfl (by kernel_rfl) (by kernel_rfl) (by kernel_rfl) (fun _ _ _ h => h) (by intro L w'; (try dsimp only); repeat (first | exact Iff.rfl | exact Till.ins (by decide) _ _ _ | refine and_congr ?_ ?_)) [] (by kernel_rfl) (by kernel_rfl) (Or.inl ⟨by rfl, ?_⟩) (by assumption) (fun hHeld' => ?_); rotate_left; (focus (intro w _; go_simp; try with_reducible rfl)); clear hHeld; have hHeld := hHeld'; clear hHeld'; (try simp only [Act.put, List.setIfInBounds_toArray, List.set_cons_zero, List.set_cons_succ])
            refine wpAnyD_take (i := 12) (oi := ⟨_, _, _, _, _, _⟩) (v := ?_) rfl (by kernel_rfl) (by kernel_rfl) (by kernel_rfl) (fun _ _ _ h => h) (by intro L w'; (try dsimp only); repeat (first | exact Iff.rfl | exact Till.ins (by decide) _ _ _ | refine and_congr ?_ ?_)) [] (by kernel_rfl) (by kernel_rfl) (Or.inl ⟨by rfl, ?_⟩) (by assumption) (fun hHeld' => ?_); rotate_left; (focus (intro w _; go_simp; try with_reducible rfl)); clear hHeld; have hHeld := hHeld'; clear hHeld'; (try simp only [Act.put, List.setIfInBounds_toArray, List.set_cons_zero, List.set_cons_succ])
            refine wpAnyD_take (i := 13) (oi := ⟨_, _, _, _, _, _⟩) (v := ?_) rfl (by kernel_rfl) (by kernel_rfl) (by kernel_rfl) (fun _ _ _ h => h) (by intro L w'; (try dsimp only); repeat (first | exact Iff.rfl | exact Till.ins (by decide) _ _ _ | refine and_congr ?_ ?_)) [] (by kernel_rfl) (by kernel_rfl) (Or.inl ⟨by rfl, ?_⟩) (by assumption) (fun hHeld' => ?_); rotate_left; (focus (intro w _; go_simp; try with_reducible rfl)); clear hHeld; have hHeld := hHeld'; clear hHeld'; (try simp only [Act.put, List.setIfInBounds_toArray, List.set_cons_zero, List.set_cons_succ])
            refine wpAnyD_ready (rs := [14]) (by kernel_rfl) (by simp) ?_
            refine AllReadyD.cons (o := ⟨_, _, _, _, _, _⟩) rfl (fun K hK => ?_) AllReadyD.nil
            have g3 : w14.drew.cell? ⟨B, 3, none⟩ = some (.slice (some ⟨sg3, 0, none⟩) (sn + 1) sc3) := (hHeld rfl).2.1 3; have gf3 : w14.drew.frozen? ⟨B, 3, none⟩ = false := (hHeld rfl).2.2 3
            go_simp
            refine hK.out _ _ (by exact (fun h => absurd h (by decide))) (fun hHeld' => ?_)
            clear hHeld hK K
            have hHeld := hHeld'
            clear hHeld'
            try simp only [Act.put, List.setIfInBounds_toArray, List.set_cons_zero, List.set_cons_succ]
            refine wpAnyD_done (by kernel_rfl) ?_ _
            have HI15 : Hid (WInv ((w14.setCell ⟨B, 3, none⟩ (.slice (some ⟨sg3, 0, none⟩) sn sc3)).drew) KB B H m (.slice (some ⟨sg3, 0, none⟩) sn sc3) (.slice (some ⟨tg3, 0, none⟩) tn tc3) ov3 full3 seen th ps3) := Lib.hid (by
              have h := (WInv.popS HI14.out sn (by rw [HSn.out]; simp)).below (Below.drew (Below.refl _ _))
              rw [List.take_left' HSn.out.symm] at h
              exact h)
            have HKs : Hid (WKeep B (.slice (some ⟨sg3, 0, none⟩) (sn + 1) sc3) (.slice (some ⟨tg3, 0, none⟩) tn tc3) (.slice (some ⟨sg3, 0, none⟩) sn sc3) (.slice (some ⟨tg3, 0, none⟩) tn tc3) w14 ((w14.setCell ⟨B, 3, none⟩ (.slice (some ⟨sg3, 0, none⟩) sn sc3)).drew)) := Lib.hid ((WKeep.pop (sv := .slice (some ⟨sg3, 0, none⟩) (sn + 1) sc3) (tv := .slice (some ⟨tg3, 0, none⟩) tn tc3) (sv' := .slice (some ⟨sg3, 0, none⟩) sn sc3) (tv' := .slice (some ⟨tg3, 0, none⟩) tn tc3) (fun _ h => h) (fun _ h => h) 3 (.slice (some ⟨sg3, 0, none⟩) sn sc3)).trans (WKeep.of_below (w := w14.setCell ⟨B, 3, none⟩ (.slice (some ⟨sg3, 0, none⟩) sn sc3)) (Below.drew (Below.refl _ _))))
            have HX15 := Lib.hid (HX14.out.keep HKs.out)
            have HL15 := Lib.hid (HL14.out.keep HKs.out)
            have HK15 := Lib.hid (HK14.out.trans HKs.out)
            have hwD : ((w14.drew.setCell ⟨B, 3, none⟩ (.slice (some ⟨sg3, 0, none⟩) sn sc3))) = ((w14.setCell ⟨B, 3, none⟩ (.slice (some ⟨sg3, 0, none⟩) sn sc3)).drew) := rfl
            try rw [hwD]
            have HR15 : Hid (RR = ((throwsM H x).drop (i + 1)).foldl (wF H m d x seen th) (ps3.map (·.2), full3)) := Lib.hid (by rw [HS.out, HSk.out, HR3.out])
            clear HKs hHeld HI14 HX14 HL14 HK14 hbd hwD HS HSk HR3
            generalize ((w14.setCell ⟨B, 3, none⟩ (.slice (some ⟨sg3, 0, none⟩) sn sc3)).drew) = w15 at *
            go_wp2
            exact ⟨⟨i + 1, _, _, _, _, ps3, by go_num, hlt, HI15, HR15, HX15, HL15, HK15⟩, by simp [intOf]; omega⟩
          · have hdI : (1 : Int) < (d : Int) + 1 := by omega
            have hdd : decide ((1 : Int) < (d : Int) + 1) = true := decide_eq_true hdI
            have hdd2 : decide (1 < d + 1) = true := decide_eq_true (by omega)
            have hdd3 : decide (0 < d) = true := decide_eq_true (by omega)
            by_cases hym : y < m
            · have HSkip : Hid (skipM m d x t seen = true) := Lib.hid (by unfold skipM; rw [HNy.out, decide_eq_true (show 0 < d by omega), decide_eq_true hym]; rfl)
              have hyd : decide (y < m) = true := decide_eq_true hym
              have hydI : decide ((y : Int) < (m : Int)) = true := decide_eq_true (by omega)
              go_wp2
              refine wp_region_held_drew (S := fun w' => Below w9.heap.size w9 w') (by kernel_rfl) (by exact ((Below.refl w9.heap.size w9)).drew) (fun hHeld => ?_)
              refine wpAnyH_take (i := 0) (oi := ⟨_, _, _, _, _, _⟩) (v := ?_) rfl (by kernel_rfl) (by kernel_rfl) (by kernel_rfl) (fun _ _ _ h => h) (Or.inl ⟨by rfl, ?_⟩) (by assumption) ?_; rotate_left; (focus (intro w hSw; (try dsimp only at hSw); go_simp; try with_reducible rfl)); (try simp only [Act.put, List.setIfInBounds_toArray, List.set_cons_zero, List.set_cons_succ])
              refine wpAnyH_take (i := 1) (oi := ⟨_, _, _, _, _, _⟩) (v := ?_) rfl (by kernel_rfl) (by kernel_rfl) (by kernel_rfl) (fun _ _ _ h => h) (Or.inl ⟨by rfl, ?_⟩) (by assumption) ?_; rotate_left; (focus (intro w hSw; (try dsimp only at hSw); go_simp; try with_reducible rfl)); (try simp only [Act.put, List.setIfInBounds_toArray, List.set_cons_zero, List.set_cons_succ])
              refine wpAnyH_take (i := 2) (oi := ⟨_, _, _, _, _, _⟩) (v := ?_) rfl (by kernel_rfl) (by kernel_rfl) (by kernel_rfl) (fun _ _ _ h => h) (Or.inl ⟨by rfl, ?_⟩) (by assumption) ?_; rotate_left; (focus (intro w hSw; (try dsimp only at hSw); go_simp; try with_reducible rfl)); (try simp only [Act.put, List.setIfInBounds_toArray, List.set_cons_zero, List.set_cons_succ])
              first | (refine wpAnyH_take (i := 3) (oi := ⟨_, _, _, _, _, _⟩) rfl (by kernel_rfl) (by kernel_rfl) (by kernel_rfl) (fun _ _ _ h => h) (Or.inr ⟨by rfl, rfl⟩) (by assumption) ?_; (try simp only [Act.put, List.setIfInBounds_toArray, List.set_cons_zero, List.set_cons_succ])) | (refine wpAnyH_take (i := 3) (oi := ⟨_, _, _, _, _, _⟩) (v := ?_) rfl (by kernel_rfl) (by kernel_rfl) (by kernel_rfl) (fun _ _ _ h => h) (Or.inl ⟨by rfl, ?_⟩) (by assumption) ?_; rotate_left; (focus (intro w hSw; (try dsimp only at hSw); go_simp; try with_reducible rfl)); (try simp only [Act.put, List.setIfInBounds_toArray, List.set_cons_zero, List.set_cons_succ]))
              first | (refine wpAnyH_take (i := 4) (oi := ⟨_, _, _, _, _, _⟩) rfl (by kernel_rfl) (by kernel_rfl) (by kernel_rfl) (fun _ _ _ h => h) (Or.inr ⟨by rfl, rfl⟩) (by assumption) ?_; (try simp only [Act.put, List.setIfInBounds_toArray, List.set_cons_zero, List.set_cons_succ])) | (refine wpAnyH_take (i := 4) (oi := ⟨_, _, _, _, _, _⟩) (v := ?_) rfl (by kernel_rfl) (by kernel_rfl) (by kernel_rfl) (fun _ _ _ h => h) (Or.inl ⟨by rfl, ?_⟩) (by assumption) ?_; rotate_left; (focus (intro w hSw; (try dsimp only at hSw); have t0 := cell_then hNl n0 hSw; have t1 := cell_then hNl n1 hSw; have t2 := cell_then hBl b2 hSw; go_simp; try with_reducible rfl)); (try simp only [Act.put, List.setIfInBounds_toArray, List.set_cons_zero, List.set_cons_succ]))
              first | (refine wpAnyH_take (i := 5) (oi := ⟨_, _, _, _, _, _⟩) rfl (by kernel_rfl) (by kernel_rfl) (by kernel_rfl) (fun _ _ _ h => h) (Or.inr ⟨by rfl, rfl⟩) (by assumption) ?_; (try simp only [Act.put, List.setIfInBounds_toArray, List.set_cons_zero, List.set_cons_succ])) | (refine wpAnyH_take (i := 5) (oi := ⟨_, _, _, _, _, _⟩) (v := ?_) rfl (by kernel_rfl) (by kernel_rfl) (by kernel_rfl) (fun _ _ _ h => h) (Or.inl ⟨by rfl, ?_⟩) (by assumption) ?_; rotate_left; (focus (intro w hSw; (try dsimp only at hSw); go_simp; try with_reducible rfl)); (try simp only [Act.put, List.setIfInBounds_toArray, List.set_cons_zero, List.set_cons_succ]))
              first | (refine wpAnyH_take (i := 6) (oi := ⟨_, _, _, _, _, _⟩) rfl (by kernel_rfl) (by kernel_rfl) (by kernel_rfl) (fun _ _ _ h => h) (Or.inr ⟨by rfl, rfl⟩) (by assumption) ?_; (try simp only [Act.put, List.setIfInBounds_toArray, List.set_cons_zero, List.set_cons_succ])) | (refine wpAnyH_take (i := 6) (oi := ⟨_, _, _, _, _, _⟩) (v := ?_) rfl (by kernel_rfl) (by kernel_rfl) (by kernel_rfl) (fun _ _ _ h => h) (Or.inl ⟨by rfl, ?_⟩) (by assumption) ?_; rotate_left; (focus (intro w hSw; (try dsimp only at hSw); go_simp; try with_reducible rfl)); (try simp only [Act.put, List.setIfInBounds_toArray, List.set_cons_zero, List.set_cons_succ]))
              first | (refine wpAnyH_take (i := 7) (oi := ⟨_, _, _, _, _, _⟩) rfl (by kernel_rfl) (by kernel_rfl) (by kernel_rfl) (fun _ _ _ h => h) (Or.inr ⟨by rfl, rfl⟩) (by assumption) ?_; (try simp only [Act.put, List.setIfInBounds_toArray, List.set_cons_zero, List.set_cons_succ])) | (refine wpAnyH_take (i := 7) (oi := ⟨_, _, _, _, _, _⟩) (v := ?_) rfl (by kernel_rfl) (by kernel_rfl) (by kernel_rfl) (fun _ _ _ h => h) (Or.inl ⟨by rfl, ?_⟩) (by assumption) ?_; rotate_left; (focus (intro w hSw; (try dsimp only at hSw); go_simp; try with_reducible rfl)); (try simp only [Act.put, List.setIfInBounds_toArray, List.set_cons_zero, List.set_cons_succ]))
              first | (refine wpAnyH_take (i := 8) (oi := ⟨_, _, _, _, _, _⟩) rfl (by kernel_rfl) (by kernel_rfl) (by kernel_rfl) (fun _ _ _ h => h) (Or.inr ⟨by rfl, rfl⟩) (by assumption) ?_; (try simp only [Act.put, List.setIfInBounds_toArray, List.set_cons_zero, List.set_cons_succ])) | (refine wpAnyH_take (i := 8) (oi := ⟨_, _, _, _, _, _⟩) (v := ?_) rfl (by kernel_rfl) (by kernel_rfl) (by kernel_rfl) (fun _ _ _ h => h) (Or.inl ⟨by rfl, ?_⟩) (by assumption) ?_; rotate_left; (focus (intro w hSw; (try dsimp only at hSw); go_simp; try with_reducible rfl)); (try simp only [Act.put, List.setIfInBounds_toArray, List.set_cons_zero, List.set_cons_succ]))
              first | (refine wpAnyH_take (i := 9) (oi := ⟨_, _, _, _, _, _⟩) rfl (by kernel_rfl) (by kernel_rfl) (by kernel_rfl) (fun _ _ _ h => h) (Or.inr ⟨by rfl, rfl⟩) (by assumption) ?_; (try simp only [Act.put, List.setIfInBounds_toArray, List.set_cons_zero, List.set_cons_succ])) | (refine wpAnyH_take (i := 9) (oi := ⟨_, _, _, _, _, _⟩) (v := ?_) rfl (by kernel_rfl) (by kernel_rfl) (by kernel_rfl) (fun _ _ _ h => h) (Or.inl ⟨by rfl, ?_⟩) (by assumption) ?_; rotate_left; (focus (intro w hSw; (try dsimp only at hSw); have t0 := cell_then hNl n0 hSw; have t1 := cell_then hNl n1 hSw; have t2 := cell_then hBl b2 hSw; go_simp; try with_reducible rfl)); (try simp only [Act.put, List.setIfInBounds_toArray, List.set_cons_zero, List.set_cons_succ]))
              first | (refine wpAnyH_take (i := 10) (oi := ⟨_, _, _, _, _, _⟩) rfl (by kernel_rfl) (by kernel_rfl) (by kernel_rfl) (fun _ _ _ h => h) (Or.inr ⟨by rfl, rfl⟩) (by assumption) ?_; (try simp only [Act.put, List.setIfInBounds_toArray, List.set_cons_zero, List.set_cons_succ])) | (refine wpAnyH_take (i := 10) (oi := ⟨_, _, _, _, _, _⟩) (v := ?_) rfl (by kernel_rfl) (by kernel_rfl) (by kernel_rfl) (fun _ _ _ h => h) (Or.inl ⟨by rfl, ?_⟩) (by assumption) ?_; rotate_left; (focus (intro w hSw; (try dsimp only at hSw); go_simp; try with_reducible rfl)); (try simp only [Act.put, List.setIfInBounds_toArray, List.set_cons_zero, List.set_cons_succ]))
              first | (refine wpAnyH_take (i := 11) (oi := ⟨_, _, _, _, _, _⟩) rfl (by kernel_rfl) (by kernel_rfl) (by kernel_rfl) (fun _ _ _ h => h) (Or.inr ⟨by rfl, rfl⟩) (by assumption) ?_; (try simp only [Act.put, List.setIfInBounds_toArray, List.set_cons_zero, List.set_cons_succ])) | (refine wpAnyH_take (i := 11) (oi := ⟨_, _, _, _, _, _⟩) (v := ?_) rfl (by kernel_rfl) (by kernel_rfl) (by kernel_rfl) (fun _ _ _ h => h) (Or.inl ⟨by rfl, ?_⟩) (by assumption) ?_; rotate_left; (focus (intro w hSw; (try dsimp only at hSw); go_simp; try with_reducible rfl)); (try simp only [Act.put, List.setIfInBounds_toArray, List.set_cons_zero, List.set_cons_succ]))
              first | (refine wpAnyH_take (i := 12) (oi := ⟨_, _, _, _, _, _⟩) rfl (by kernel_rfl) (by kernel_rfl) (by kernel_rfl) (fun _ _ _ h => h) (Or.inr ⟨by rfl, rfl⟩) (by assumption) ?_; (try simp only [Act.put, List.setIfInBounds_toArray, List.set_cons_zero, List.set_cons_succ])) | (refine wpAnyH_take (i := 12) (oi := ⟨_, _, _, _, _, _⟩) (v := ?_) rfl (by kernel_rfl) (by kernel_rfl) (by kernel_rfl) (fun _ _ _ h => h) (Or.inl ⟨by rfl, ?_⟩) (by assumption) ?_; rotate_left; (focus (intro w hSw; (try dsimp only at hSw); go_simp; try with_reducible rfl)); (try simp only [Act.put, List.setIfInBounds_toArray, List.set_cons_zero, List.set_cons_succ]))
              first | (refine wpAnyH_take (i := 13) (oi := ⟨_, _, _, _, _, _⟩) rfl (by kernel_rfl) (by kernel_rfl) (by kernel_rfl) (fun _ _ _ h => h) (Or.inr ⟨by rfl, rfl⟩) (by assumption) ?_; (try simp only [Act.put, List.setIfInBounds_toArray, List.set_cons_zero, List.set_cons_succ])) | (refine wpAnyH_take (i := 13) (oi := ⟨_, _, _, _, _, _⟩) (v := ?_) rfl (by kernel_rfl) (by kernel_rfl) (by kernel_rfl) (fun _ _ _ h => h) (Or.inl ⟨by rfl, ?_⟩) (by assumption) ?_; rotate_left; (focus (intro w hSw; (try dsimp only at hSw); have t0 := cell_then hNl n0 hSw; have t1 := cell_then hNl n1 hSw; have t2 := cell_then hBl b2 hSw; go_simp; try with_reducible rfl)); (try simp only [Act.put, List.setIfInBounds_toArray, List.set_cons_zero, List.set_cons_succ]))
              (refine wpAnyH_take (i := 14) (oi := ⟨_, _, _, _, _, _⟩) rfl (by kernel_rfl) (by kernel_rfl) (by kernel_rfl) (fun _ _ _ h => h) (Or.inr ⟨by rfl, rfl⟩) (by assumption) ?_; (try simp only [Act.put, List.setIfInBounds_toArray, List.set_cons_zero, List.set_cons_succ]))
              first | (refine wpAnyH_take (i := 15) (oi := ⟨_, _, _, _, _, _⟩) rfl (by kernel_rfl) (by kernel_rfl) (by kernel_rfl) (fun _ _ _ h => h) (Or.inr ⟨by rfl, rfl⟩) (by assumption) ?_; (try simp only [Act.put, List.setIfInBounds_toArray, List.set_cons_zero, List.set_cons_succ])) | (refine wpAnyH_take (i := 15) (oi := ⟨_, _, _, _, _, _⟩) (v := ?_) rfl (by kernel_rfl) (by kernel_rfl) (by kernel_rfl) (fun _ _ _ h => h) (Or.inl ⟨by rfl, ?_⟩) (by assumption) ?_; rotate_left; (focus (intro w hSw; (try dsimp only at hSw); go_simp; try with_reducible rfl)); (try simp only [Act.put, List.setIfInBounds_toArray, List.set_cons_zero, List.set_cons_succ]))
              refine wpAnyH_take (i := 16) (oi := ⟨_, _, _, _, _, _⟩) (v := ?_) rfl (by kernel_rfl) (by kernel_rfl) (by kernel_rfl) (fun _ _ _ h => h) (Or.inl ⟨by rfl, ?_⟩) (by assumption) ?_; rotate_left; (focus (intro w hSw; (try dsimp only at hSw); go_simp; try with_reducible rfl)); (try simp only [Act.put, List.setIfInBounds_toArray, List.set_cons_zero, List.set_cons_succ])
              refine wpAnyH_done (by kernel_rfl) ?_ _
              clear n0 n1 b2 hNl hBl hdI hdd hdd2 hdd3 hd0 hyd hydI hym
              have HKz : Hid (WKeep B sv' tv' sv' tv' w9 (w9.drew)) := Lib.hid (WKeep.of_below hHeld)
              have HIa := Lib.hid (HI9.out.below hHeld)
              have HXa := Lib.hid (HX9.out.keep HKz.out)
              have HLa := Lib.hid (HL9.out.keep HKz.out)
              have HKa := Lib.hid (HK9.out.trans HKz.out)
              have HR15 : Hid (RR = ((throwsM H x).drop (i + 1)).foldl (wF H m d x seen th) (ps'.map (·.2), false)) := Lib.hid (by rw [HS.out, HWF.out, if_pos HSkip.out])
              clear HKz HI9 HX9 HL9 HN9 HC9 HK9 HWF HSkip HNy hHeld HS
              generalize (w9.drew) = w10 at *
              go_wp2
              exact ⟨⟨i + 1, _, _, _, _, ps', by go_num, hlt, HIa, HR15, HXa, HLa, HKa⟩, by simp [intOf]; omega⟩
            · have hyd : decide (y < m) = false := decide_eq_false hym
              have hydI : decide ((y : Int) < (m : Int)) = false := decide_eq_false (by omega)
              have HHas := Lib.hid (fun W h => has_c KB B H m y sv' tv' ov' false seen th ps' W h (by have := Hsl.out; omega))
              have HSkip : Hid (skipM m d x t seen = decide (y ∈ seen)) := Lib.hid (by unfold skipM; rw [HNy.out, decide_eq_true (show 0 < d by omega), decide_eq_false hym]; rfl)
              generalize decide (y ∈ seen) = hs at *
              go_wp2
              refine wp_region_held_drew (S := fun w' => Below w9.heap.size w9 w') (by kernel_rfl) (by exact ((Below.refl w9.heap.size w9)).drew) (fun hHeld => ?_)
              refine wpAnyH_take (i := 0) (oi := ⟨_, _, _, _, _, _⟩) (v := ?_) rfl (by kernel_rfl) (by kernel_rfl) (by kernel_rfl) (fun _ _ _ h => h) (Or.inl ⟨by rfl, ?_⟩) (by assumption) ?_; rotate_left; (focus (intro w hSw; (try dsimp only at hSw); go_simp; try with_reducible rfl)); (try simp only [Act.put, List.setIfInBounds_toArray, List.set_cons_zero, List.set_cons_succ])
              refine wpAnyH_take (i := 1) (oi := ⟨_, _, _, _, _, _⟩) (v := ?_) rfl (by kernel_rfl) (by kernel_rfl) (by kernel_rfl) (fun _ _ _ h => h) (Or.inl ⟨by rfl, ?_⟩) (by assumption) ?_; rotate_left; (focus (intro w hSw; (try dsimp only at hSw); go_simp; try with_reducible rfl)); (try simp only [Act.put, List.setIfInBounds_toArray, List.set_cons_zero, List.set_cons_succ])
              refine wpAnyH_take (i := 2) (oi := ⟨_, _, _, _, _, _⟩) (v := ?_) rfl (by kernel_rfl) (by kernel_rfl) (by kernel_rfl) (fun _ _ _ h => h) (Or.inl ⟨by rfl, ?_⟩) (by assumption) ?_; rotate_left; (focus (intro w hSw; (try dsimp only at hSw); go_simp; try with_reducible rfl)); (try simp only [Act.put, List.setIfInBounds_toArray, List.set_cons_zero, List.set_cons_succ])
              first | (refine wpAnyH_take (i := 3) (oi := ⟨_, _, _, _, _, _⟩) rfl (by kernel_rfl) (by kernel_rfl) (by kernel_rfl) (fun _ _ _ h => h) (Or.inr ⟨by rfl, rfl⟩) (by assumption) ?_; (try simp only [Act.put, List.setIfInBounds_toArray, List.set_cons_zero, List.set_cons_succ])) | (refine wpAnyH_take (i := 3) (oi := ⟨_, _, _, _, _, _⟩) (v := ?_) rfl (by kernel_rfl) (by kernel_rfl) (by kernel_rfl) (fun _ _ _ h => h) (Or.inl ⟨by rfl, ?_⟩) (by assumption) ?_; rotate_left; (focus (intro w hSw; (try dsimp only at hSw); go_simp; try with_reducible rfl)); (try simp only [Act.put, List.setIfInBounds_toArray, List.set_cons_zero, List.set_cons_succ]))
              first | (refine wpAnyH_take (i := 4) (oi := ⟨_, _, _, _, _, _⟩) rfl (by kernel_rfl) (by kernel_rfl) (by kernel_rfl) (fun _ _ _ h => h) (Or.inr ⟨by rfl, rfl⟩) (by assumption) ?_; (try simp only [Act.put, List.setIfInBounds_toArray, List.set_cons_zero, List.set_cons_succ])) | (refine wpAnyH_take (i := 4) (oi := ⟨_, _, _, _, _, _⟩) (v := ?_) rfl (by kernel_rfl) (by kernel_rfl) (by kernel_rfl) (fun _ _ _ h => h) (Or.inl ⟨by rfl, ?_⟩) (by assumption) ?_; rotate_left; (focus (intro w hSw; (try dsimp only at hSw); have t0 := cell_then hNl n0 hSw; have t1 := cell_then hNl n1 hSw; have t2 := cell_then hBl b2 hSw; go_simp; try with_reducible rfl)); (try simp only [Act.put, List.setIfInBounds_toArray, List.set_cons_zero, List.set_cons_succ]))
              first | (refine wpAnyH_take (i := 5) (oi := ⟨_, _, _, _, _, _⟩) rfl (by kernel_rfl) (by kernel_rfl) (by kernel_rfl) (fun _ _ _ h => h) (Or.inr ⟨by rfl, rfl⟩) (by assumption) ?_; (try simp only [Act.put, List.setIfInBounds_toArray, List.set_cons_zero, List.set_cons_succ])) | (refine wpAnyH_take (i := 5) (oi := ⟨_, _, _, _, _, _⟩) (v := ?_) rfl (by kernel_rfl) (by kernel_rfl) (by kernel_rfl) (fun _ _ _ h => h) (Or.inl ⟨by rfl, ?_⟩) (by assumption) ?_; rotate_left; (focus (intro w hSw; (try dsimp only at hSw); go_simp; try with_reducible rfl)); (try simp only [Act.put, List.setIfInBounds_toArray, List.set_cons_zero, List.set_cons_succ]))
              first | (refine wpAnyH_take (i := 6) (oi := ⟨_, _, _, _, _, _⟩) rfl (by kernel_rfl) (by kernel_rfl) (by kernel_rfl) (fun _ _ _ h => h) (Or.inr ⟨by rfl, rfl⟩) (by assumption) ?_; (try simp only [Act.put, List.setIfInBounds_toArray, List.set_cons_zero, List.set_cons_succ])) | (refine wpAnyH_take (i := 6) (oi := ⟨_, _, _, _, _, _⟩) (v := ?_) rfl (by kernel_rfl) (by kernel_rfl) (by kernel_rfl) (fun _ _ _ h => h) (Or.inl ⟨by rfl, ?_⟩) (by assumption) ?_; rotate_left; (focus (intro w hSw; (try dsimp only at hSw); go_simp; try with_reducible rfl)); (try simp only [Act.put, List.setIfInBounds_toArray, List.set_cons_zero, List.set_cons_succ]))
              first | (refine wpAnyH_take (i := 7) (oi := ⟨_, _, _, _, _, _⟩) rfl (by kernel_rfl) (by kernel_rfl) (by kernel_rfl) (fun _ _ _ h => h) (Or.inr ⟨by rfl, rfl⟩) (by assumption) ?_; (try simp only [Act.put, List.setIfInBounds_toArray, List.set_cons_zero, List.set_cons_succ])) | (refine wpAnyH_take (i := 7) (oi := ⟨_, _, _, _, _, _⟩) (v := ?_) rfl (by kernel_rfl) (by kernel_rfl) (by kernel_rfl) (fun _ _ _ h => h) (Or.inl ⟨by rfl, ?_⟩) (by assumption) ?_; rotate_left; (focus (intro w hSw; (try dsimp only at hSw); go_simp; try with_reducible rfl)); (try simp only [Act.put, List.setIfInBounds_toArray, List.set_cons_zero, List.set_cons_succ]))
              first | (refine wpAnyH_take (i := 8) (oi := ⟨_, _, _, _, _, _⟩) rfl (by kernel_rfl) (by kernel_rfl) (by kernel_rfl) (fun _ _ _ h => h) (Or.inr ⟨by rfl, rfl⟩) (by assumption) ?_; (try simp only [Act.put, List.setIfInBounds_toArray, List.set_cons_zero, List.set_cons_succ])) | (refine wpAnyH_take (i := 8) (oi := ⟨_, _, _, _, _, _⟩) (v := ?_) rfl (by kernel_rfl) (by kernel_rfl) (by kernel_rfl) (fun _ _ _ h => h) (Or.inl ⟨by rfl, ?_⟩) (by assumption) ?_; rotate_left; (focus (intro w hSw; (try dsimp only at hSw); go_simp; try with_reducible rfl)); (try simp only [Act.put, List.setIfInBounds_toArray, List.set_cons_zero, List.set_cons_succ]))
              first | (refine wpAnyH_take (i := 9) (oi := ⟨_, _, _, _, _, _⟩) rfl (by kernel_rfl) (by kernel_rfl) (by kernel_rfl) (fun _ _ _ h => h) (Or.inr ⟨by rfl, rfl⟩) (by assumption) ?_; (try simp only [Act.put, List.setIfInBounds_toArray, List.set_cons_zero, List.set_cons_succ])) | (refine wpAnyH_take (i := 9) (oi := ⟨_, _, _, _, _, _⟩) (v := ?_) rfl (by kernel_rfl) (by kernel_rfl) (by kernel_rfl) (fun _ _ _ h => h) (Or.inl ⟨by rfl, ?_⟩) (by assumption) ?_; rotate_left; (focus (intro w hSw; (try dsimp only at hSw); have t0 := cell_then hNl n0 hSw; have t1 := cell_then hNl n1 hSw; have t2 := cell_then hBl b2 hSw; go_simp; try with_reducible rfl)); (try simp only [Act.put, List.setIfInBounds_toArray, List.set_cons_zero, List.set_cons_succ]))
              first | (refine wpAnyH_take (i := 10) (oi := ⟨_, _, _, _, _, _⟩) rfl (by kernel_rfl) (by kernel_rfl) (by kernel_rfl) (fun _ _ _ h => h) (Or.inr ⟨by rfl, rfl⟩) (by assumption) ?_; (try simp only [Act.put, List.setIfInBounds_toArray, List.set_cons_zero, List.set_cons_succ])) | (refine wpAnyH_take (i := 10) (oi := ⟨_, _, _, _, _, _⟩) (v := ?_) rfl (by kernel_rfl) (by kernel_rfl) (by kernel_rfl) (fun _ _ _ h => h) (Or.inl ⟨by rfl, ?_⟩) (by assumption) ?_; rotate_left; (focus (intro w hSw; (try dsimp only at hSw); go_simp; try with_reducible rfl)); (try simp only [Act.put, List.setIfInBounds_toArray, List.set_cons_zero, List.set_cons_succ]))
              first | (refine wpAnyH_take (i := 11) (oi := ⟨_, _, _, _, _, _⟩) rfl (by kernel_rfl) (by kernel_rfl) (by kernel_rfl) (fun _ _ _ h => h) (Or.inr ⟨by rfl, rfl⟩) (by assumption) ?_; (try simp only [Act.put, List.setIfInBounds_toArray, List.set_cons_zero, List.set_cons_succ])) | (refine wpAnyH_take (i := 11) (oi := ⟨_, _, _, _, _, _⟩) (v := ?_) rfl (by kernel_rfl) (by kernel_rfl) (by kernel_rfl) (fun _ _ _ h => h) (Or.inl ⟨by rfl, ?_⟩) (by assumption) ?_; rotate_left; (focus (intro w hSw; (try dsimp only at hSw); go_simp; try with_reducible rfl)); (try simp only [Act.put, List.setIfInBounds_toArray, List.set_cons_zero, List.set_cons_succ]))
              first | (refine wpAnyH_take (i := 12) (oi := ⟨_, _, _, _, _, _⟩) rfl (by kernel_rfl) (by kernel_rfl) (by kernel_rfl) (fun _ _ _ h => h) (Or.inr ⟨by rfl, rfl⟩) (by assumption) ?_; (try simp only [Act.put, List.setIfInBounds_toArray, List.set_cons_zero, List.set_cons_succ])) | (refine wpAnyH_take (i := 12) (oi := ⟨_, _, _, _, _, _⟩) (v := ?_) rfl (by kernel_rfl) (by kernel_rfl) (by kernel_rfl) (fun _ _ _ h => h) (Or.inl ⟨by rfl, ?_⟩) (by assumption) ?_; rotate_left; (focus (intro w hSw; (try dsimp only at hSw); go_simp; try with_reducible rfl)); (try simp only [Act.put, List.setIfInBounds_toArray, List.set_cons_zero, List.set_cons_succ]))
              first | (refine wpAnyH_take (i := 13) (oi := ⟨_, _, _, _, _, _⟩) rfl (by kernel_rfl) (by kernel_rfl) (by kernel_rfl) (fun _ _ _ h => h) (Or.inr ⟨by rfl, rfl⟩) (by assumption) ?_; (try simp only [Act.put, List.setIfInBounds_toArray, List.set_cons_zero, List.set_cons_succ])) | (refine wpAnyH_take (i := 13) (oi := ⟨_, _, _, _, _, _⟩) (v := ?_) rfl (by kernel_rfl) (by kernel_rfl) (by kernel_rfl) (fun _ _ _ h => h) (Or.inl ⟨by rfl, ?_⟩) (by assumption) ?_; rotate_left; (focus (intro w hSw; (try dsimp only at hSw); have t0 := cell_then hNl n0 hSw; have t1 := cell_then hNl n1 hSw; have t2 := cell_then hBl b2 hSw; go_simp; try with_reducible rfl)); (try simp only [Act.put, List.setIfInBounds_toArray, List.set_cons_zero, List.set_cons_succ]))
              refine wpAnyH_ready (rs := [14]) (by kernel_rfl) (by simp) ?_
              refine AllReadyH.cons (o := ⟨_, _, _, _, _, _⟩) rfl (fun K hK => ?_) AllReadyH.nil
              go_simp
              go_at_call 50; refine (HHas.out _ (HI9.out.below hHeld)).mono ?_; rintro e x7 ⟨rfl, d7⟩; have hS' := bthen hHeld d7
              refine hK.out _ _ (by exact hS') (fun hHeld' => ?_)
              clear hHeld hK K
              have hHeld := hHeld'
              clear hHeld'
              try simp only [Act.put, List.setIfInBounds_toArray, List.set_cons_zero, List.set_cons_succ]
              first | (refine wpAnyH_take (i := 15) (oi := ⟨_, _, _, _, _, _⟩) rfl (by kernel_rfl) (by kernel_rfl) (by kernel_rfl) (fun _ _ _ h => h) (Or.inr ⟨by rfl, rfl⟩) (by assumption) ?_; (try simp only [Act.put, List.setIfInBounds_toArray, List.set_cons_zero, List.set_cons_succ])) | (refine wpAnyH_take (i := 15) (oi := ⟨_, _, _, _, _, _⟩) (v := ?_) rfl (by kernel_rfl) (by kernel_rfl) (by kernel_rfl) (fun _ _ _ h => h) (Or.inl ⟨by rfl, ?_⟩) (by assumption) ?_; rotate_left; (focus (intro w hSw; (try dsimp only at hSw); go_simp; try with_reducible rfl)); (try simp only [Act.put, List.setIfInBounds_toArray, List.set_cons_zero, List.set_cons_succ]))
              refine wpAnyH_take (i := 16) (oi := ⟨_, _, _, _, _, _⟩) (v := ?_) rfl (by kernel_rfl) (by kernel_rfl) (by kernel_rfl) (fun _ _ _ h => h) (Or.inl ⟨by rfl, ?_⟩) (by assumption) ?_; rotate_left; (focus (intro w hSw; (try dsimp only at hSw); go_simp; try with_reducible rfl)); (try simp only [Act.put, List.setIfInBounds_toArray, List.set_cons_zero, List.set_cons_succ])
              refine wpAnyH_done (by kernel_rfl) ?_ _
              clear n0 n1 b2 hNl hBl hdI hdd hdd2 hdd3 hd0 hyd hydI hym HHas
              cases hs
              · skip
                have HKz : Hid (WKeep B sv' tv' sv' tv' w9 (x7)) := Lib.hid (WKeep.of_below hHeld)
                have HIa := Lib.hid (HI9.out.below hHeld)
                have HXa := Lib.hid (HX9.out.keep HKz.out)
                have HLa := Lib.hid (HL9.out.keep HKz.out)
                have HNa := Lib.hid (HN9.out.keep HKz.out)
                have HCa := Lib.hid (HC9.out.keep HKz.out)
                have HKa := Lib.hid (HK9.out.trans HKz.out)
                have HSk : Hid (wF H m d x seen th (ps'.map (·.2), false) t = wS H m d y (seen ++ [y]) (th ++ [(t : Int)]) (ps'.map (·.2), false)) := Lib.hid (by rw [HWF.out, if_neg (by rw [HSkip.out]; decide)])
                clear HKz HI9 HX9 HL9 HN9 HC9 HK9 HWF HSkip HNy hHeld
                generalize (x7) = w10 at *
                obtain ⟨sa, sn, sc, rfl⟩ := HIa.out.ss
                have HSn : Hid (sn = seen.length) := Lib.hid (by have h := sts_len HIa.out.sts; rw [stM_len] at h; exact h)
                have hbd : Below w10.heap.size w10 w10.drew := (Below.refl _ _).drew
                go_wp2
                refine wp_region_dep (S := fun L w' => Till 10 (fun w' => BoxIs w' B [.int .i64 H, .int .i64 H, .int .i64 m, .slice sa sn sc, tv', ov', .bool false] ∧ BoxIs w' N0 [.int .i64 H, .int .i64 y]) L w') (by kernel_rfl) (by exact (fun _ => ⟨HIa.out.box.below hbd, HNa.out.1.below hbd⟩)) (fun hHeld => ?_)
                refine wpAnyD_take (i := 0) (oi := ⟨_, _, _, _, _, _⟩) (v := ?_) rfl (by kernel_rfl) (by kernel_rfl) (by kernel_rfl) (fun _ _ _ h => h) (by intro L w'; (try dsimp only); repeat (first | exact Iff.rfl | exact Till.ins (by decide) _ _ _ | refine and_congr ?_ ?_)) [] (by kernel_rfl) (by kernel_rfl) (Or.inl ⟨by rfl, ?_⟩) (by assumption) (fun hHeld' => ?_); rotate_left; (focus (intro w _; go_simp; try with_reducible rfl)); clear hHeld; have hHeld := hHeld'; clear hHeld'; (try simp only [Act.put, List.setIfInBounds_toArray, List.set_cons_zero, List.set_cons_succ])
                refine wpAnyD_take (i := 1) (oi := ⟨_, _, _, _, _, _⟩) (v := ?_) rfl (by kernel_rfl) (by kernel_rfl) (by kernel_rfl) (fun _ _ _ h => h) (by intro L w'; (try dsimp only); repeat (first | exact Iff.rfl | exact Till.ins (by decide) _ _ _ | refine and_congr ?_ ?_)) [] (by kernel_rfl) (by kernel_rfl) (Or.inl ⟨by rfl, ?_⟩) (by assumption) (fun hHeld' => ?_); rotate_left; (focus (intro w _; go_simp; try with_reducible rfl)); clear hHeld; have hHeld := hHeld'; clear hHeld'; (try simp only [Act.put, List.setIfInBounds_toArray, List.set_cons_zero, List.set_cons_succ])
                refine wpAnyD_take (i := 2) (oi := ⟨_, _, _, _, _, _⟩) (v := ?_) rfl (by kernel_rfl) (by kernel_rfl) (by kernel_rfl) (fun _ _ _ h => h) (by intro L w'; (try dsimp only); repeat (first | exact Iff.rfl | exact Till.ins (by decide) _ _ _ | refine and_congr ?_ ?_)) [] (by kernel_rfl) (by kernel_rfl) (Or.inl ⟨by rfl, ?_⟩) (by assumption) (fun hHeld' => ?_); rotate_left; (focus (intro w _; go_simp; try with_reducible rfl)); clear hHeld; have hHeld := hHeld'; clear hHeld'; (try simp only [Act.put, List.setIfInBounds_toArray, List.set_cons_zero, List.set_cons_succ])
                refine wpAnyD_take (i := 3) (oi := ⟨_, _, _, _, _, _⟩) (v := ?_) rfl (by kernel_rfl) (by kernel_rfl) (by kernel_rfl) (fun _ _ _ h => h) (by intro L w'; (try dsimp only); repeat (first | exact Iff.rfl | exact Till.ins (by decide) _ _ _ | refine and_congr ?_ ?_)) [] (by kernel_rfl) (by kernel_rfl) (Or.inl ⟨by rfl, ?_⟩) (by assumption) (fun hHeld' => ?_); rotate_left; (focus (intro w _; go_simp; try with_reducible rfl)); clear hHeld; have hHeld := hHeld'; clear hHeld'; (try simp only [Act.put, List.setIfInBounds_toArray, List.set_cons_zero, List.set_cons_succ])
                refine wpAnyD_take (i := 4) (oi := ⟨_, _, _, _, _, _⟩) (v := ?_) rfl (by kernel_rfl) (by kernel_rfl) (by kernel_rfl) (fun _ _ _ h => h) (by intro L w'; (try dsimp only); repeat (first | exact Iff.rfl | exact Till.ins (by decide) _ _ _ | refine and_congr ?_ ?_)) [7, 8, 9, 10] (by kernel_rfl) (by kernel_rfl) (Or.inl ⟨by rfl, ?_⟩) (by assumption) (fun hHeld' => ?_); rotate_left; (focus (intro w hSw0; obtain ⟨L, ho, hSw⟩ := hSw0; (try dsimp only at hSw); have HH := Till.of hSw ho rfl; have t3 : w.cell? ⟨B, 3, none⟩ = some (.slice sa sn sc) := HH.1.2.1 3; have n0 : w.cell? ⟨N0, 0, none⟩ = some (.int .i64 (H : Int)) := HH.2.2.1 0; have n1 : w.cell? ⟨N0, 1, none⟩ = some (.int .i64 (y : Int)) := HH.2.2.1 1; clear HH; clear ho hSw; go_simp; try with_reducible rfl)); clear hHeld; have hHeld := hHeld'; clear hHeld'; (try simp only [Act.put, List.setIfInBounds_toArray, List.set_cons_zero, List.set_cons_succ])
                refine wpAnyD_take (i := 5) (oi := ⟨_, _, _, _, _, _⟩) (v := ?_) rfl (by kernel_rfl) (by kernel_rfl) (by kernel_rfl) (fun _ _ _ h => h) (by intro L w'; (try dsimp only); repeat (first | exact Iff.rfl | exact Till.ins (by decide) _ _ _ | refine and_congr ?_ ?_)) [6, 8, 9, 10] (by kernel_rfl) (by kernel_rfl) (Or.inl ⟨by rfl, ?_⟩) (by assumption) (fun hHeld' => ?_); rotate_left; (focus (intro w hSw0; obtain ⟨L, ho, hSw⟩ := hSw0; (try dsimp only at hSw); have HH := Till.of hSw ho rfl; have t3 : w.cell? ⟨B, 3, none⟩ = some (.slice sa sn sc) := HH.1.2.1 3; have n0 : w.cell? ⟨N0, 0, none⟩ = some (.int .i64 (H : Int)) := HH.2.2.1 0; have n1 : w.cell? ⟨N0, 1, none⟩ = some (.int .i64 (y : Int)) := HH.2.2.1 1; clear HH; clear ho hSw; go_simp; try with_reducible rfl)); clear hHeld; have hHeld := hHeld'; clear hHeld'; (try simp only [Act.put, List.setIfInBounds_toArray, List.set_cons_zero, List.set_cons_succ])
                refine wpAnyD_ready (rs := [6]) (by kernel_rfl) (by simp) ?_
                refine AllReadyD.cons (o := ⟨_, _, _, _, _, _⟩) rfl (fun K hK => ?_) AllReadyD.nil
                go_simp
                refine hK.out _ _ (by exact (fun h => ⟨(hHeld h).1.alloc _, (hHeld h).2.alloc _⟩)) (fun hHeld' => ?_)
                clear hHeld hK K
                have hHeld := hHeld'
                clear hHeld'
                try simp only [Act.put, List.setIfInBounds_toArray, List.set_cons_zero, List.set_cons_succ]
                refine wpAnyD_ready (rs := [7]) (by kernel_rfl) (by simp) ?_
                refine AllReadyD.cons (o := ⟨_, _, _, _, _, _⟩) rfl (fun K hK => ?_) AllReadyD.nil
                refine step_app_sts rfl _ _ rfl KB (.slice sa sn sc) (stM H seen) rfl ((HIa.out.below hbd).below (below_allocP' _ _)).sts _ _ ((H : Int), (y : Int)) rfl (oneSt _ _ _ _) (by rw [stM_len]; have := Hsl.out; omega) (by have h1 := HIa.out.kw; simp; omega) ?_; intro a5 c5 x6 ho5 hg5 hl5; have HX5 := Lib.hid ho5; have HG5 := Lib.hid hg5; have HL5 := Lib.hid hl5; have hS' : ∀ L, Till 10 (fun w' => BoxIs w' B [.int .i64 H, .int .i64 H, .int .i64 m, .slice sa sn sc, tv', ov', .bool false] ∧ BoxIs w' N0 [.int .i64 H, .int .i64 y]) L x6 := fun _ _ => ⟨box_grown ((HIa.out.below hbd).below (below_allocP' _ _)).box hg5 HIa.out.sB, box_grown ((HNa.out.1.below hbd).alloc _) hg5 HNa.out.2.2.1⟩; clear ho5 hg5 hl5
                refine hK.out _ _ (by first | exact hS' | exact hS' _) (fun hHeld' => ?_)
                clear hHeld hK K
                have hHeld := hHeld'
                clear hHeld'
                try simp only [Act.put, List.setIfInBounds_toArray, List.set_cons_zero, List.set_cons_succ]
                refine wpAnyD_take (i := 8) (oi := ⟨_, _, _, _, _, _⟩) (v := ?_) rfl (by kernel_rfl) (by kernel_rfl) (by kernel_rfl) (fun _ _ _ h => h) (by intro L w'; (try dsimp only); repeat (first | exact Iff.rfl | exact Till.ins (by decide) _ _ _ | refine and_congr ?_ ?_)) [] (by kernel_rfl) (by kernel_rfl) (Or.inl ⟨by rfl, ?_⟩) (by assumption) (fun hHeld' => ?_); rotate_left; (focus (intro w _; go_simp; try with_reducible rfl)); clear hHeld; have hHeld := hHeld'; clear hHeld'; (try simp only [Act.put, List.setIfInBounds_toArray, List.set_cons_zero, List.set_cons_succ])
                refine wpAnyD_take (i := 9) (oi := ⟨_, _, _, _, _, _⟩) (v := ?_) rfl (by kernel_rfl) (by kernel_rfl) (by kernel_rfl) (fun _ _ _ h => h) (by intro L w'; (try dsimp only); repeat (first | exact Iff.rfl | exact Till.ins (by decide) _ _ _ | refine and_congr ?_ ?_)) [] (by kernel_rfl) (by kernel_rfl) (Or.inl ⟨by rfl, ?_⟩) (by assumption) (fun hHeld' => ?_); rotate_left; (focus (intro w _; go_simp; try with_reducible rfl)); clear hHeld; have hHeld := hHeld'; clear hHeld'; (try simp only [Act.put, List.setIfInBounds_toArray, List.set_cons_zero, List.set_cons_succ])
                refine wpAnyD_ready (rs := [10]) (by kernel_rfl) (by simp) ?_
                refine AllReadyD.cons (o := ⟨_, _, _, _, _, _⟩) rfl (fun K hK => ?_) AllReadyD.nil
                have g3 : x6.cell? ⟨B, 3, none⟩ = some (.slice sa sn sc) := (hHeld rfl).1.2.1 3; have gf3 : x6.frozen? ⟨B, 3, none⟩ = false := (hHeld rfl).1.2.2 3
                go_simp
                refine hK.out _ _ (by exact (fun h => absurd h (by decide))) (fun hHeld' => ?_)
                clear hHeld hK K
                have hHeld := hHeld'
                clear hHeld'
                try simp only [Act.put, List.setIfInBounds_toArray, List.set_cons_zero, List.set_cons_succ]
                refine wpAnyD_done (by kernel_rfl) ?_ _
                have hsl9 : (stM H seen).length = sn := by rw [stM_len]; exact HSn.out.symm
                have HI10 : Hid (WInv (x6.setCell ⟨B, 3, none⟩ (.slice a5 ((stM H seen).length + 1) c5)) KB B H m (.slice a5 ((stM H seen).length + 1) c5) tv' ov' false (seen ++ [y]) th ps') := Lib.hid (WInv.pushS ((HIa.out.below hbd).below (below_allocP' _ _)) (by have h := HX5.out; unfold stM at h ⊢; rw [List.map_append]; exact h) HG5.out HL5.out ⟨_, _, _, rfl⟩)
                have HKs : Hid (WKeep B (.slice sa sn sc) tv' (.slice a5 ((stM H seen).length + 1) c5) tv' w10 (x6.setCell ⟨B, 3, none⟩ (.slice a5 ((stM H seen).length + 1) c5))) := Lib.hid ((WKeep.of_below (Below.trans' hbd (below_allocP' _ _))).trans (WKeep.pushS HG5.out HL5.out 3 _))
                clear HX5 HG5 HL5 hHeld HIa
                generalize x6.setCell ⟨B, 3, none⟩ (.slice a5 ((stM H seen).length + 1) c5) = w11 at *
                rw [hsl9] at HI10 HKs ⊢
                have HX10 := Lib.hid (HXa.out.keep HKs.out)
                have HL10 := Lib.hid (HLa.out.keep HKs.out)
                have HN10 := Lib.hid (HNa.out.keep HKs.out)
                have HC10 := Lib.hid (HCa.out.keep HKs.out)
                have HK10 := Lib.hid (HKa.out.trans HKs.out)
                clear HXa HLa HNa HCa HKa HKs hbd hsl9
                obtain ⟨ta, tn, tc, rfl⟩ := HI10.out.tl
                have hbd : Below w11.heap.size w11 w11.drew := (Below.refl _ _).drew
                have HTn : Hid (tn = th.length) := Lib.hid (by obtain ⟨_, _, e⟩ := slice_of_own HI10.out.thr; injection e)
                go_wp2
                refine wp_region_dep (S := fun L w' => Till 13 (fun w' => BoxIs w' B [.int .i64 H, .int .i64 H, .int .i64 m, .slice a5 (sn + 1) c5, .slice ta tn tc, ov', .bool false] ∧ w'.cell? ⟨lb, lo + i, none⟩ = some (.int .i64 (t : Int))) L w') (by kernel_rfl) (by exact (fun _ => ⟨HI10.out.box.below hbd, cell_then HC10.out.2.1 HC10.out.1 hbd⟩)) (fun hHeld => ?_)
                refine wpAnyD_take (i := 0) (oi := ⟨_, _, _, _, _, _⟩) (v := ?_) rfl (by kernel_rfl) (by kernel_rfl) (by kernel_rfl) (fun _ _ _ h => h) (by intro L w'; (try dsimp only); repeat (first | exact Iff.rfl | exact Till.ins (by decide) _ _ _ | refine and_congr ?_ ?_)) [] (by kernel_rfl) (by kernel_rfl) (Or.inl ⟨by rfl, ?_⟩) (by assumption) (fun hHeld' => ?_); rotate_left; (focus (intro w _; go_simp; try with_reducible rfl)); clear hHeld; have hHeld := hHeld'; clear hHeld'; (try simp only [Act.put, List.setIfInBounds_toArray, List.set_cons_zero, List.set_cons_succ])
                refine wpAnyD_take (i := 1) (oi := ⟨_, _, _, _, _, _⟩) (v := ?_) rfl (by kernel_rfl) (by kernel_rfl) (by kernel_rfl) (fun _ _ _ h => h) (by intro L w'; (try dsimp only); repeat (first | exact Iff.rfl | exact Till.ins (by decide) _ _ _ | refine and_congr ?_ ?_)) [] (by kernel_rfl) (by kernel_rfl) (Or.inl ⟨by rfl, ?_⟩) (by assumption) (fun hHeld' => ?_); rotate_left; (focus (intro w _; go_simp; try with_reducible rfl)); clear hHeld; have hHeld := hHeld'; clear hHeld'; (try simp only [Act.put, List.setIfInBounds_toArray, List.set_cons_zero, List.set_cons_succ])
                refine wpAnyD_take (i := 2) (oi := ⟨_, _, _, _, _, _⟩) (v := ?_) rfl (by kernel_rfl) (by kernel_rfl) (by kernel_rfl) (fun _ _ _ h => h) (by intro L w'; (try dsimp only); repeat (first | exact Iff.rfl | exact Till.ins (by decide) _ _ _ | refine and_congr ?_ ?_)) [] (by kernel_rfl) (by kernel_rfl) (Or.inl ⟨by rfl, ?_⟩) (by assumption) (fun hHeld' => ?_); rotate_left; (focus (intro w _; go_simp; try with_reducible rfl)); clear hHeld; have hHeld := hHeld'; clear hHeld'; (try simp only [Act.put, List.setIfInBounds_toArray, List.set_cons_zero, List.set_cons_succ])
                refine wpAnyD_take (i := 3) (oi := ⟨_, _, _, _, _, _⟩) (v := ?_) rfl (by kernel_rfl) (by kernel_rfl) (by kernel_rfl) (fun _ _ _ h => h) (by intro L w'; (try dsimp only); repeat (first | exact Iff.rfl | exact Till.ins (by decide) _ _ _ | refine and_congr ?_ ?_)) [] (by kernel_rfl) (by kernel_rfl) (Or.inl ⟨by rfl, ?_⟩) (by assumption) (fun hHeld' => ?_); rotate_left; (focus (intro w _; go_simp; try with_reducible rfl)); clear hHeld; have hHeld := hHeld'; clear hHeld'; (try simp only [Act.put, List.setIfInBounds_toArray, List.set_cons_zero, List.set_cons_succ])
                refine wpAnyD_take (i := 4) (oi := ⟨_, _, _, _, _, _⟩) (v := ?_) rfl (by kernel_rfl) (by kernel_rfl) (by kernel_rfl) (fun _ _ _ h => h) (by intro L w'; (try dsimp only); repeat (first | exact Iff.rfl | exact Till.ins (by decide) _ _ _ | refine and_congr ?_ ?_)) [10, 11, 12, 13] (by kernel_rfl) (by kernel_rfl) (Or.inl ⟨by rfl, ?_⟩) (by assumption) (fun hHeld' => ?_); rotate_left; (focus (intro w hSw0; obtain ⟨L, ho, hSw⟩ := hSw0; (try dsimp only at hSw); have HH := Till.of hSw ho rfl; have t4 : w.cell? ⟨B, 4, none⟩ = some (.slice ta tn tc) := HH.1.2.1 4; have n0 := HH.2; clear HH; clear ho hSw; go_simp; try with_reducible rfl)); clear hHeld; have hHeld := hHeld'; clear hHeld'; (try simp only [Act.put, List.setIfInBounds_toArray, List.set_cons_zero, List.set_cons_succ])
                refine wpAnyD_take (i := 5) (oi := ⟨_, _, _, _, _, _⟩) (v := ?_) rfl (by kernel_rfl) (by kernel_rfl) (by kernel_rfl) (fun _ _ _ h => h) (by intro L w'; (try dsimp only); repeat (first | exact Iff.rfl | exact Till.ins (by decide) _ _ _ | refine and_congr ?_ ?_)) [] (by kernel_rfl) (by kernel_rfl) (Or.inl ⟨by rfl, ?_⟩) (by assumption) (fun hHeld' => ?_); rotate_left; (focus (intro w _; go_simp; try with_reducible rfl)); clear hHeld; have hHeld := hHeld'; clear hHeld'; (try simp only [Act.put, List.setIfInBounds_toArray, List.set_cons_zero, List.set_cons_succ])
                refine wpAnyD_take (i := 6) (oi := ⟨_, _, _, _, _, _⟩) (v := ?_) rfl (by kernel_rfl) (by kernel_rfl) (by kernel_rfl) (fun _ _ _ h => h) (by intro L w'; (try dsimp only); repeat (first | exact Iff.rfl | exact Till.ins (by decide) _ _ _ | refine and_congr ?_ ?_)) [] (by kernel_rfl) (by kernel_rfl) (Or.inl ⟨by rfl, ?_⟩) (by assumption) (fun hHeld' => ?_); rotate_left; (focus (intro w _; go_simp; try with_reducible rfl)); clear hHeld; have hHeld := hHeld'; clear hHeld'; (try simp only [Act.put, List.setIfInBounds_toArray, List.set_cons_zero, List.set_cons_succ])
                refine wpAnyD_take (i := 7) (oi := ⟨_, _, _, _, _, _⟩) (v := ?_) rfl (by kernel_rfl) (by kernel_rfl) (by kernel_rfl) (fun _ _ _ h => h) (by intro L w'; (try dsimp only); repeat (first | exact Iff.rfl | exact Till.ins (by decide) _ _ _ | refine and_congr ?_ ?_)) [] (by kernel_rfl) (by kernel_rfl) (Or.inl ⟨by rfl, ?_⟩) (by assumption) (fun hHeld' => ?_); rotate_left; (focus (intro w _; go_simp; try with_reducible rfl)); clear hHeld; have hHeld := hHeld'; clear hHeld'; (try simp only [Act.put, List.setIfInBounds_toArray, List.set_cons_zero, List.set_cons_succ])
                refine wpAnyD_take (i := 8) (oi := ⟨_, _, _, _, _, _⟩) (v := ?_) rfl (by kernel_rfl) (by kernel_rfl) (by kernel_rfl) (fun _ _ _ h => h) (by intro L w'; (try dsimp only); repeat (first | exact Iff.rfl | exact Till.ins (by decide) _ _ _ | refine and_congr ?_ ?_)) [9, 11, 12, 13] (by kernel_rfl) (by kernel_rfl) (Or.inl ⟨by rfl, ?_⟩) (by assumption) (fun hHeld' => ?_); rotate_left; (focus (intro w hSw0; obtain ⟨L, ho, hSw⟩ := hSw0; (try dsimp only at hSw); have HH := Till.of hSw ho rfl; have t4 : w.cell? ⟨B, 4, none⟩ = some (.slice ta tn tc) := HH.1.2.1 4; have n0 := HH.2; clear HH; clear ho hSw; go_simp; try with_reducible rfl)); clear hHeld; have hHeld := hHeld'; clear hHeld'; (try simp only [Act.put, List.setIfInBounds_toArray, List.set_cons_zero, List.set_cons_succ])
                refine wpAnyD_ready (rs := [9]) (by kernel_rfl) (by simp) ?_
                refine AllReadyD.cons (o := ⟨_, _, _, _, _, _⟩) rfl (fun K hK => ?_) AllReadyD.nil
                go_simp
                refine hK.out _ _ (by exact (fun h => ⟨(hHeld h).1.alloc _, cell_then (World.block_lt_of_cell? _ _ (hHeld h).2) (hHeld h).2 (below_allocP' _ _)⟩)) (fun hHeld' => ?_)
                clear hHeld hK K
                have hHeld := hHeld'
                clear hHeld'
                try simp only [Act.put, List.setIfInBounds_toArray, List.set_cons_zero, List.set_cons_succ]
                refine wpAnyD_ready (rs := [10]) (by kernel_rfl) (by simp) ?_
                refine AllReadyD.cons (o := ⟨_, _, _, _, _, _⟩) rfl (fun K hK => ?_) AllReadyD.nil
                refine step_app_intsI rfl _ _ rfl KB (.slice ta tn tc) th rfl ((HI10.out.below hbd).below (below_allocP' _ _)).thr _ 1 1 [(t : Int)] rfl rfl (ints_new _ _ _) (by have := Hth.out; simp; omega) (by have h1 := HI10.out.kw; simp; omega) ?_; intro a7 n7 c7 x8 ho7 hg7 hl7; have HX7 := Lib.hid ho7; have HG7 := Lib.hid hg7; have HL7 := Lib.hid hl7; have hS' : ∀ L, Till 13 (fun w' => BoxIs w' B [.int .i64 H, .int .i64 H, .int .i64 m, .slice a5 (sn + 1) c5, .slice ta tn tc, ov', .bool false] ∧ w'.cell? ⟨lb, lo + i, none⟩ = some (.int .i64 (t : Int))) L x8 := fun _ _ => ⟨box_grown ((HI10.out.below hbd).below (below_allocP' _ _)).box hg7 HI10.out.tB, (World.cell?_of_block (a := ⟨lb, lo + i, none⟩) (hg7.block lb (by have := HC10.out.2.1; simp; omega) (fun e => HC10.out.2.2.2.2 e.symm))).trans (cell_then (World.block_lt_of_cell? _ _ (cell_then HC10.out.2.1 HC10.out.1 hbd)) (cell_then HC10.out.2.1 HC10.out.1 hbd) (below_allocP' _ _))⟩; clear ho7 hg7 hl7
                refine hK.out _ _ (by first | exact hS' | exact hS' _) (fun hHeld' => ?_)
                clear hHeld hK K
                have hHeld := hHeld'
                clear hHeld'
                try simp only [Act.put, List.setIfInBounds_toArray, List.set_cons_zero, List.set_cons_succ]
                refine wpAnyD_take (i := 11) (oi := ⟨_, _, _, _, _, _⟩) (v := ?_) rfl (by kernel_rfl) (by kernel_rfl) (by kernel_rfl) (fun _ _ _ h => h) (by intro L w'; (try dsimp only); repeat (first | exact Iff.rfl | exact Till.ins (by decide) _ _ _ | refine and_congr ?_ ?_)) [] (by kernel_rfl) (by kernel_rfl) (Or.inl ⟨by rfl, ?_⟩) (by assumption) (fun hHeld' => ?_); rotate_left; (focus (intro w _; go_simp; try with_reducible rfl)); clear hHeld; have hHeld := hHeld'; clear hHeld'; (try simp only [Act.put, List.setIfInBounds_toArray, List.set_cons_zero, List.set_cons_succ])
                refine wpAnyD_take (i := 12) (oi := ⟨_, _, _, _, _, _⟩) (v := ?_) rfl (by kernel_rfl) (by kernel_rfl) (by kernel_rfl) (fun _ _ _ h => h) (by intro L w'; (try dsimp only); repeat (first | exact Iff.rfl | exact Till.ins (by decide) _ _ _ | refine and_congr ?_ ?_)) [] (by kernel_rfl) (by kernel_rfl) (Or.inl ⟨by rfl, ?_⟩) (by assumption) (fun hHeld' => ?_); rotate_left; (focus (intro w _; go_simp; try with_reducible rfl)); clear hHeld; have hHeld := hHeld'; clear hHeld'; (try simp only [Act.put, List.setIfInBounds_toArray, List.set_cons_zero, List.set_cons_succ])
                refine wpAnyD_ready (rs := [13]) (by kernel_rfl) (by simp) ?_
                refine AllReadyD.cons (o := ⟨_, _, _, _, _, _⟩) rfl (fun K hK => ?_) AllReadyD.nil
                have g3 : x8.cell? ⟨B, 4, none⟩ = some (.slice ta tn tc) := (hHeld rfl).1.2.1 4; have gf3 : x8.frozen? ⟨B, 4, none⟩ = false := (hHeld rfl).1.2.2 4
                go_simp
                refine hK.out _ _ (by exact (fun h => absurd h (by decide))) (fun hHeld' => ?_)
                clear hHeld hK K
                have hHeld := hHeld'
                clear hHeld'
                try simp only [Act.put, List.setIfInBounds_toArray, List.set_cons_zero, List.set_cons_succ]
                refine wpAnyD_done (by kernel_rfl) ?_ _
                have HI12 : Hid (WInv (x8.setCell ⟨B, 4, none⟩ (.slice a7 n7 c7)) KB B H m (.slice a5 (sn + 1) c5) (.slice a7 n7 c7) ov' false (seen ++ [y]) (th ++ [(t : Int)]) ps') := Lib.hid (WInv.pushT ((HI10.out.below hbd).below (below_allocP' _ _)) HX7.out HG7.out HL7.out ⟨_, _, _, rfl⟩)
                have HKs : Hid (WKeep B (.slice a5 (sn + 1) c5) (.slice ta tn tc) (.slice a5 (sn + 1) c5) (.slice a7 n7 c7) w11 (x8.setCell ⟨B, 4, none⟩ (.slice a7 n7 c7))) := Lib.hid ((WKeep.of_below (Below.trans' hbd (below_allocP' _ _))).trans (WKeep.pushT HG7.out HL7.out 4 _))
                clear HX7 HG7 HL7 hHeld HI10
                generalize x8.setCell ⟨B, 4, none⟩ (.slice a7 n7 c7) = w12 at *
                have HX12 := Lib.hid (HX10.out.keep HKs.out)
                have HL12 := Lib.hid (HL10.out.keep HKs.out)
                have HN12 := Lib.hid (HN10.out.keep HKs.out)
                have HK12 := Lib.hid (HK10.out.trans HKs.out)
                clear HX10 HL10 HN10 HC10 HK10 HKs hbd
                have HRec := Lib.hid (IH.out y (seen ++ [y]) (th ++ [(t : Int)]) w12 _ _ _ ps' hy (by have := Hsl.out; simp; omega) (by have := Hth.out; simp; omega) HI12.out)
                have n0 : w12.cell? ⟨N0, 0, none⟩ = some (.int .i64 (H : Int)) := HN12.out.1.2.1 0
                have n1 : w12.cell? ⟨N0, 1, none⟩ = some (.int .i64 (y : Int)) := HN12.out.1.2.1 1
                have hwl : IntKind.i64.wrap ((d : Int) + 1 - 1) = (d : Int) := by rw [IntWalk.i64_in _ (by omega)]; omega
                have hwl2 : IntKind.i64.wrap (d : Int) = (d : Int) := IntWalk.i64_in _ (by omega)
                generalize wS H m d y (seen ++ [y]) (th ++ [(t : Int)]) (ps'.map (·.2), false) = R9 at *
                clear HI12
                go_wp2_with fail
                refine HRec.out.mono ?_
                rintro e w13 ⟨rfl, sv3, tv3, ov3, full3, ps3, hI3, hR3, hK3⟩
                have HX13 := Lib.hid (HX12.out.keep hK3)
                have HL13 := Lib.hid (HL12.out.keep hK3)
                have HK13 := Lib.hid (HK12.out.trans hK3)
                have HR3 := Lib.hid hR3
                have hl3 : (stM H (seen ++ [y])).length = sn + 1 := by rw [stM_len, List.length_append, HSn.out]; rfl
                obtain ⟨sa3, sn3, sc3, rfl⟩ := hI3.ss
                have hsn3 : sn3 = sn + 1 := by rw [← hl3]; exact sts_len hI3.sts
                subst hsn3
                obtain ⟨sg3, rfl, -, -⟩ := sts_head hI3.sts (by omega)
                obtain ⟨ta3, tn3, tc3, rfl⟩ := hI3.tl
                have htn3 : tn3 = tn + 1 := by
                  obtain ⟨_, _, e⟩ := slice_of_own hI3.thr
                  injection e with _ e2 _
                  rw [e2, HTn.out]; simp
                subst htn3
                obtain ⟨tg3, rfl⟩ : ∃ g, ta3 = some ⟨g, 0, none⟩ := by
                  obtain ⟨g, cap, e, _, _⟩ := hI3.thr.form (by simp)
                  injection e with e1
                  exact ⟨g, e1⟩
                have hcapt : tn ≤ tc3 := by
                  rcases hI3.thr.2 with ⟨e, _⟩ | ⟨g, cap, cur, e, _, _, hnc, _⟩
                  · cases e
                  · injection e with _ _ e3; subst e3; rw [HTn.out]; simp at hnc; omega
                have hcaps : sn ≤ sc3 := by
                  rcases hI3.sts.2 with ⟨e, _⟩ | ⟨g, cap, cur, e, _, _, hnc, _⟩
                  · cases e
                  · injection e with _ _ e3; subst e3; rw [hl3] at hnc; omega
                have HI13 := Lib.hid hI3
                clear hI3 hR3 hK3 HX12 HL12 HN12 HK12 HRec n0 n1 hl3
                have hwt : IntKind.i64.wrap (tn : Int) = (tn : Int) := IntWalk.i64_in _ (by have := Hth.out; have h2 := HTn.out; omega)
                have hws : IntKind.i64.wrap (sn : Int) = (sn : Int) := IntWalk.i64_in _ (by have := Hsl.out; have h2 := HSn.out; omega)
                have hit0 : (0 : Int) ≤ (tn : Int) := by omega
                have hit1 : (tn : Int) ≤ (tc3 : Int) := by omega
                have his0 : (0 : Int) ≤ (sn : Int) := by omega
                have his1 : (sn : Int) ≤ (sc3 : Int) := by omega
                have hbd : Below w13.heap.size w13 w13.drew := (Below.refl _ _).drew
                go_wp2
                refine wp_region_dep (S := fun L w' => Till 14 (fun w' => BoxIs w' B [.int .i64 H, .int .i64 H, .int .i64 m, .slice (some ⟨sg3, 0, none⟩) (sn + 1) sc3, .slice (some ⟨tg3, 0, none⟩) (tn + 1) tc3, ov3, .bool full3]) L w') (by kernel_rfl) (by exact (fun _ => HI13.out.box.below hbd)) (fun hHeld => ?_)
                refine wpAnyD_take (i := 0) (oi := ⟨_, _, _, _, _, _⟩) (v := ?_) rfl (by kernel_rfl) (by kernel_rfl) (by kernel_rfl) (fun _ _ _ h => h) (by intro L w'; (try dsimp only); repeat (first | exact Iff.rfl | exact Till.ins (by decide) _ _ _ | refine and_congr ?_ ?_)) [] (by kernel_rfl) (by kernel_rfl) (Or.inl ⟨by rfl, ?_⟩) (by assumption) (fun hHeld' => ?_); rotate_left; (focus (intro w _; go_simp; try with_reducible rfl)); clear hHeld; have hHeld := hHeld'; clear hHeld'; (try simp only [Act.put, List.setIfInBounds_toArray, List.set_cons_zero, List.set_cons_succ])
                refine wpAnyD_take (i := 1) (oi := ⟨_, _, _, _, _, _⟩) (v := ?_) rfl (by kernel_rfl) (by kernel_rfl) (by kernel_rfl) (fun _ _ _ h => h) (by intro L w'; (try dsimp only); repeat (first | exact Iff.rfl | exact Till.ins (by decide) _ _ _ | refine and_congr ?_ ?_)) [] (by kernel_rfl) (by kernel_rfl) (Or.inl ⟨by rfl, ?_⟩) (by assumption) (fun hHeld' => ?_); rotate_left; (focus (intro w _; go_simp; try with_reducible rfl)); clear hHeld; have hHeld := hHeld'; clear hHeld'; (try simp only [Act.put, List.setIfInBounds_toArray, List.set_cons_zero, List.set_cons_succ])
                refine wpAnyD_take (i := 2) (oi := ⟨_, _, _, _, _, _⟩) (v := ?_) rfl (by kernel_rfl) (by kernel_rfl) (by kernel_rfl) (fun _ _ _ h => h) (by intro L w'; (try dsimp only); repeat (first | exact Iff.rfl | exact Till.ins (by decide) _ _ _ | refine and_congr ?_ ?_)) [] (by kernel_rfl) (by kernel_rfl) (Or.inl ⟨by rfl, ?_⟩) (by assumption) (fun hHeld' => ?_); rotate_left; (focus (intro w _; go_simp; try with_reducible rfl)); clear hHeld; have hHeld := hHeld'; clear hHeld'; (try simp only [Act.put, List.setIfInBounds_toArray, List.set_cons_zero, List.set_cons_succ])
                refine wpAnyD_take (i := 3) (oi := ⟨_, _, _, _, _, _⟩) (v := ?_) rfl (by kernel_rfl) (by kernel_rfl) (by kernel_rfl) (fun _ _ _ h => h) (by intro L w'; (try dsimp only); repeat (first | exact Iff.rfl | exact Till.ins (by decide) _ _ _ | refine and_congr ?_ ?_)) [] (by kernel_rfl) (by kernel_rfl) (Or.inl ⟨by rfl, ?_⟩) (by assumption) (fun hHeld' => ?_); rotate_left; (focus (intro w _; go_simp; try with_reducible rfl)); clear hHeld; have hHeld := hHeld'; clear hHeld'; (try simp only [Act.put, List.setIfInBounds_toArray, List.set_cons_zero, List.set_cons_succ])
                refine wpAnyD_take (i := 4) (oi := ⟨_, _, _, _, _, _⟩) (v := ?_) rfl (by kernel_rfl) (by kernel_rfl) (by kernel_rfl) (fun _ _ _ h => h) (by intro L w'; (try dsimp only); repeat (first | exact Iff.rfl | exact Till.ins (by decide) _ _ _ | refine and_congr ?_ ?_)) [11, 12, 13, 14] (by kernel_rfl) (by kernel_rfl) (Or.inl ⟨by rfl, ?_⟩) (by assumption) (fun hHeld' => ?_); rotate_left; (focus (intro w hSw0; obtain ⟨L, ho, hSw⟩ := hSw0; (try dsimp only at hSw); have HH := Till.of hSw ho rfl; have t4 : w.cell? ⟨B, 4, none⟩ = some (.slice (some ⟨tg3, 0, none⟩) (tn + 1) tc3) := HH.2.1 4; clear HH; clear ho hSw; go_simp; try with_reducible rfl)); clear hHeld; have hHeld := hHeld'; clear hHeld'; (try simp only [Act.put, List.setIfInBounds_toArray, List.set_cons_zero, List.set_cons_succ])
                refine wpAnyD_take (i := 5) (oi := ⟨_, _, _, _, _, _⟩) (v := ?_) rfl (by kernel_rfl) (by kernel_rfl) (by kernel_rfl) (fun _ _ _ h => h) (by intro L w'; (try dsimp only); repeat (first | exact Iff.rfl | exact Till.ins (by decide) _ _ _ | refine and_congr ?_ ?_)) [] (by kernel_rfl) (by kernel_rfl) (Or.inl ⟨by rfl, ?_⟩) (by assumption) (fun hHeld' => ?_); rotate_left; (focus (intro w _; go_simp; try with_reducible rfl)); clear hHeld; have hHeld := hHeld'; clear hHeld'; (try simp only [Act.put, List.setIfInBounds_toArray, List.set_cons_zero, List.set_cons_succ])
                refine wpAnyD_take (i := 6) (oi := ⟨_, _, _, _, _, _⟩) (v := ?_) rfl (by kernel_rfl) (by kernel_rfl) (by kernel_rfl) (fun _ _ _ h => h) (by intro L w'; (try dsimp only); repeat (first | exact Iff.rfl | exact Till.ins (by decide) _ _ _ | refine and_congr ?_ ?_)) [] (by kernel_rfl) (by kernel_rfl) (Or.inl ⟨by rfl, ?_⟩) (by assumption) (fun hHeld' => ?_); rotate_left; (focus (intro w _; go_simp; try with_reducible rfl)); clear hHeld; have hHeld := hHeld'; clear hHeld'; (try simp only [Act.put, List.setIfInBounds_toArray, List.set_cons_zero, List.set_cons_succ])
                refine wpAnyD_take (i := 7) (oi := ⟨_, _, _, _, _, _⟩) (v := ?_) rfl (by kernel_rfl) (by kernel_rfl) (by kernel_rfl) (fun _ _ _ h => h) (by intro L w'; (try dsimp only); repeat (first | exact Iff.rfl | exact Till.ins (by decide) _ _ _ | refine and_congr ?_ ?_)) [] (by kernel_rfl) (by kernel_rfl) (Or.inl ⟨by rfl, ?_⟩) (by assumption) (fun hHeld' => ?_); rotate_left; (focus (intro w _; go_simp; try with_reducible rfl)); clear hHeld; have hHeld := hHeld'; clear hHeld'; (try simp only [Act.put, List.setIfInBounds_toArray, List.set_cons_zero, List.set_cons_succ])
                refine wpAnyD_take (i := 8) (oi := ⟨_, _, _, _, _, _⟩) (v := ?_) rfl (by kernel_rfl) (by kernel_rfl) (by kernel_rfl) (fun _ _ _ h => h) (by intro L w'; (try dsimp only); repeat (first | exact Iff.rfl | exact Till.ins (by decide) _ _ _ | refine and_congr ?_ ?_)) [9, 12, 13, 14] (by kernel_rfl) (by kernel_rfl) (Or.inl ⟨by rfl, ?_⟩) (by assumption) (fun hHeld' => ?_); rotate_left; (focus (intro w hSw0; obtain ⟨L, ho, hSw⟩ := hSw0; (try dsimp only at hSw); have HH := Till.of hSw ho rfl; have t4 : w.cell? ⟨B, 4, none⟩ = some (.slice (some ⟨tg3, 0, none⟩) (tn + 1) tc3) := HH.2.1 4; clear HH; clear ho hSw; go_simp; try with_reducible rfl)); clear hHeld; have hHeld := hHeld'; clear hHeld'; (try simp only [Act.put, List.setIfInBounds_toArray, List.set_cons_zero, List.set_cons_succ])
                refine wpAnyD_take (i := 9) (oi := ⟨_, _, _, _, _, _⟩) (v := ?_) rfl (by kernel_rfl) (by kernel_rfl) (by kernel_rfl) (fun _ _ _ h => h) (by intro L w'; (try dsimp only); repeat (first | exact Iff.rfl | exact Till.ins (by decide) _ _ _ | refine and_congr ?_ ?_)) [] (by kernel_rfl) (by kernel_rfl) (Or.inl ⟨by rfl, ?_⟩) (by assumption) (fun hHeld' => ?_); rotate_left; (focus (intro w _; go_simp; try with_reducible rfl)); clear hHeld; have hHeld := hHeld'; clear hHeld'; (try simp only [Act.put, List.setIfInBounds_toArray, List.set_cons_zero, List.set_cons_succ])
                refine wpAnyD_take (i := 10) (oi := ⟨_, _, _, _, _, _⟩) (v := ?_) rfl (by kernel_rfl) (by kernel_rfl) (by kernel_rfl) (fun _ _ _ h => h) (by intro L w'; (try dsimp only); repeat (first | exact Iff.rfl | exact Till.ins (by decide) _ _ _ | refine and_congr ?_ ?_)) [] (by kernel_rfl) (by kernel_rfl) (Or.inl ⟨by rfl, ?_⟩) (by assumption) (fun hHeld' => ?_); rotate_left; (focus (intro w _; go_simp; try with_reducible rfl)); clear hHeld; have hHeld := hHeld'; clear hHeld'; (try simp only [Act.put, List.setIfInBounds_toArray, List.set_cons_zero, List.set_cons_succ])
                refine wpAnyD_take (i := 11) (oi := ⟨_, _, _, _, _, _⟩) (v := ?_) rfl (by kernel_rfl) (by kernel_rfl) (by kernel_rfl) (fun _ _ _ h => h) (by intro L w'; (try dsimp only); repeat (first | exact Iff.rfl | exact Till.ins (by decide) _ _ _ | refine and_congr ?_ ?_)) [] (by kernel_rfl) (by kernel_rfl) (Or.inl ⟨by rfl, ?_⟩) (by assumption) (fun hHeld' => ?_); rotate_left; (focus (intro w _; go_simp; try with_reducible rfl)); clear hHeld; have hHeld := hHeld'; clear hHeld'; (try simp only [Act.put, List.setIfInBounds_toArray, List.set_cons_zero, List.set_cons_succ])
                refine wpAnyD_take (i := 12) (oi := ⟨_, _, _, _, _, _⟩) (v := ?_) rfl (by kernel_rfl) (by kernel_rfl) (by kernel_rfl) (fun _ _ _ h => h) (by intro L w'; (try dsimp only); repeat (first | exact Iff.rfl | exact Till.ins (by decide) _ _ _ | refine and_congr ?_ ?_)) [] (by kernel_rfl) (by kernel_rfl) (Or.inl ⟨by rfl, ?_⟩) (by assumption) (fun hHeld' => ?_); rotate_left; (focus (intro w _; go_simp; try with_reducible rfl)); clear hHeld; have hHeld := hHeld'; clear hHeld'; (try simp only [Act.put, List.setIfInBounds_toArray, List.set_cons_zero, List.set_cons_succ])
                refine wpAnyD_take (i := 13) (oi := ⟨_, _, _, _, _, _⟩) (v := ?_) rfl (by kernel_rfl) (by kernel_rfl) (by kernel_rfl) (fun _ _ _ h => h) (by intro L w'; (try dsimp only); repeat (first | exact Iff.rfl | exact Till.ins (by decide) _ _ _ | refine and_congr ?_ ?_)) [] (by kernel_rfl) (by kernel_rfl) (Or.inl ⟨by rfl, ?_⟩) (by assumption) (fun hHeld' => ?_); rotate_left; (focus (intro w _; go_simp; try with_reducible rfl)); clear hHeld; have hHeld := hHeld'; clear hHeld'; (try simp only [Act.put, List.setIfInBounds_toArray, List.set_cons_zero, List.set_cons_succ])
                refine wpAnyD_ready (rs := [14]) (by kernel_rfl) (by simp) ?_
                refine AllReadyD.cons (o := ⟨_, _, _, _, _, _⟩) rfl (fun K hK => ?_) AllReadyD.nil
                have g3 : w13.drew.cell? ⟨B, 4, none⟩ = some (.slice (some ⟨tg3, 0, none⟩) (tn + 1) tc3) := (hHeld rfl).2.1 4; have gf3 : w13.drew.frozen? ⟨B, 4, none⟩ = false := (hHeld rfl).2.2 4
                go_simp
                refine hK.out _ _ (by exact (fun h => absurd h (by decide))) (fun hHeld' => ?_)
                clear hHeld hK K
                have hHeld := hHeld'
                clear hHeld'
                try simp only [Act.put, List.setIfInBounds_toArray, List.set_cons_zero, List.set_cons_succ]
                refine wpAnyD_done (by kernel_rfl) ?_ _
                have HI14 : Hid (WInv ((w13.setCell ⟨B, 4, none⟩ (.slice (some ⟨tg3, 0, none⟩) tn tc3)).drew) KB B H m (.slice (some ⟨sg3, 0, none⟩) (sn + 1) sc3) (.slice (some ⟨tg3, 0, none⟩) tn tc3) ov3 full3 (seen ++ [y]) th ps3) := Lib.hid (by
                  have h := (WInv.popT HI13.out tn (by rw [HTn.out]; simp)).below (Below.drew (Below.refl _ _))
                  rw [List.take_left' HTn.out.symm] at h
                  exact h)
                have HKs : Hid (WKeep B (.slice (some ⟨sg3, 0, none⟩) (sn + 1) sc3) (.slice (some ⟨tg3, 0, none⟩) (tn + 1) tc3) (.slice (some ⟨sg3, 0, none⟩) (sn + 1) sc3) (.slice (some ⟨tg3, 0, none⟩) tn tc3) w13 ((w13.setCell ⟨B, 4, none⟩ (.slice (some ⟨tg3, 0, none⟩) tn tc3)).drew)) := Lib.hid ((WKeep.pop (sv := .slice (some ⟨sg3, 0, none⟩) (sn + 1) sc3) (tv := .slice (some ⟨tg3, 0, none⟩) (tn + 1) tc3) (sv' := .slice (some ⟨sg3, 0, none⟩) (sn + 1) sc3) (tv' := .slice (some ⟨tg3, 0, none⟩) tn tc3) (fun _ h => h) (fun _ h => h) 4 (.slice (some ⟨tg3, 0, none⟩) tn tc3)).trans (WKeep.of_below (w := w13.setCell ⟨B, 4, none⟩ (.slice (some ⟨tg3, 0, none⟩) tn tc3)) (Below.drew (Below.refl _ _))))
                have HX14 := Lib.hid (HX13.out.keep HKs.out)
                have HL14 := Lib.hid (HL13.out.keep HKs.out)
                have HK14 := Lib.hid (HK13.out.trans HKs.out)
                have hwD : ((w13.drew.setCell ⟨B, 4, none⟩ (.slice (some ⟨tg3, 0, none⟩) tn tc3))) = ((w13.setCell ⟨B, 4, none⟩ (.slice (some ⟨tg3, 0, none⟩) tn tc3)).drew) := rfl
                try rw [hwD]
                clear HKs hHeld HI13 HX13 HL13 HK13 hbd hwD
                generalize ((w13.setCell ⟨B, 4, none⟩ (.slice (some ⟨tg3, 0, none⟩) tn tc3)).drew) = w14 at *
                have hbd : Below w14.heap.size w14 w14.drew := (Below.refl _ _).drew
                go_wp2
                refine wp_region_dep (S := fun L w' => Till 14 (fun w' => BoxIs w' B [.int .i64 H, .int .i64 H, .int .i64 m, .slice (some ⟨sg3, 0, none⟩) (sn + 1) sc3, .slice (some ⟨tg3, 0, none⟩) tn tc3, ov3, .bool full3]) L w') (by kernel_rfl) (by exact (fun _ => HI14.out.box.below hbd)) (fun hHeld => ?_)
                refine wpAnyD_take (i := 0) (oi := ⟨_, _, _, _, _, _⟩) (v := ?_) rfl (by kernel_rfl) (by kernel_rfl) (by kernel_rfl) (fun _ _ _ h => h) (by intro L w'; (try dsimp only); repeat (first | exact Iff.rfl | exact Till.ins (by decide) _ _ _ | refine and_congr ?_ ?_)) [] (by kernel_rfl) (by kernel_rfl) (Or.inl ⟨by rfl, ?_⟩) (by assumption) (fun hHeld' => ?_); rotate_left; (focus (intro w _; go_simp; try with_reducible rfl)); clear hHeld; have hHeld := hHeld'; clear hHeld'; (try simp only [Act.put, List.setIfInBounds_toArray, List.set_cons_zero, List.set_cons_succ])
                refine wpAnyD_take (i := 1) (oi := ⟨_, _, _, _, _, _⟩) (v := ?_) rfl (by kernel_rfl) (by kernel_rfl) (by kernel_rfl) (fun _ _ _ h => h) (by intro L w'; (try dsimp only); repeat (first | exact Iff.rfl | exact Till.ins (by decide) _ _ _ | refine and_congr ?_ ?_)) [] (by kernel_rfl) (by kernel_rfl) (Or.inl ⟨by rfl, ?_⟩) (by assumption) (fun hHeld' => ?_); rotate_left; (focus (intro w _; go_simp; try with_reducible rfl)); clear hHeld; have hHeld := hHeld'; clear hHeld'; (try simp only [Act.put, List.setIfInBounds_toArray, List.set_cons_zero, List.set_cons_succ])
                refine wpAnyD_take (i := 2) (oi := ⟨_, _, _, _, _, _⟩) (v := ?_) rfl (by kernel_rfl) (by kernel_rfl) (by kernel_rfl) (fun _ _ _ h => h) (by intro L w'; (try dsimp only); repeat (first | exact Iff.rfl | exact Till.ins (by decide) _ _ _ | refine and_congr ?_ ?_)) [] (by kernel_rfl) (by kernel_rfl) (Or.inl ⟨by rfl, ?_⟩) (by assumption) (fun hHeld' => ?_); rotate_left; (focus (intro w _; go_simp; try with_reducible rfl)); clear hHeld; have hHeld := hHeld'; clear hHeld'; (try simp only [Act.put, List.setIfInBounds_toArray, List.set_cons_zero, List.set_cons_succ])
                refine wpAnyD_take (i := 3) (oi := ⟨_, _, _, _, _, _⟩) (v := ?_) rfl (by kernel_rfl) (by kernel_rfl) (by kernel_rfl) (fun _ _ _ h => h) (by intro L w'; (try dsimp only); repeat (first | exact Iff.rfl | exact Till.ins (by decide) _ _ _ | refine and_congr ?_ ?_)) [] (by kernel_rfl) (by kernel_rfl) (Or.inl ⟨by rfl, ?_⟩) (by assumption) (fun hHeld' => ?_); rotate_left; (focus (intro w _; go_simp; try with_reducible rfl)); clear hHeld; have hHeld := hHeld'; clear hHeld'; (try simp only [Act.put, List.setIfInBounds_toArray, List.set_cons_zero, List.set_cons_succ])
                refine wpAnyD_take (i := 4) (oi := ⟨_, _, _, _, _, _⟩) (v := ?_) rfl (by kernel_rfl) (by kernel_rfl) (by kernel_rfl) (fun _ _ _ h => h) (by intro L w'; (try dsimp only); repeat (first | exact Iff.rfl | exact Till.ins (by decide) _ _ _ | refine and_congr ?_ ?_)) [11, 12, 13, 14] (by kernel_rfl) (by kernel_rfl) (Or.inl ⟨by rfl, ?_⟩) (by assumption) (fun hHeld' => ?_); rotate_left; (focus (intro w hSw0; obtain ⟨L, ho, hSw⟩ := hSw0; (try dsimp only at hSw); have HH := Till.of hSw ho rfl; have t4 : w.cell? ⟨B, 3, none⟩ = some (.slice (some ⟨sg3, 0, none⟩) (sn + 1) sc3) := HH.2.1 3; clear HH; clear ho hSw; go_simp; try with_reducible rfl)); clear hHeld; have hHeld := hHeld'; clear hHeld'; (try simp only [Act.put, List.setIfInBounds_toArray, List.set_cons_zero, List.set_cons_succ])
                refine wpAnyD_take (i := 5) (oi := ⟨_, _, _, _, _, _⟩) (v := ?_) rfl (by kernel_rfl) (by kernel_rfl) (by kernel_rfl) (fun _ _ _ h => h) (by intro L w'; (try dsimp only); repeat (first | exact Iff.rfl | exact Till.ins (by decide) _ _ _ | refine and_congr ?_ ?_)) [] (by kernel_rfl) (by kernel_rfl) (Or.inl ⟨by rfl, ?_⟩) (by assumption) (fun hHeld' => ?_); rotate_left; (focus (intro w _; go_simp; try with_reducible rfl)); clear hHeld; have hHeld := hHeld'; clear hHeld'; (try simp only [Act.put, List.setIfInBounds_toArray, List.set_cons_zero, List.set_cons_succ])
                refine wpAnyD_take (i := 6) (oi := ⟨_, _, _, _, _, _⟩) (v := ?_) rfl (by kernel_rfl) (by kernel_rfl) (by kernel_rfl) (fun _ _ _ h => h) (by intro L w'; (try dsimp only); repeat (first | exact Iff.rfl | exact Till.ins (by decide) _ _ _ | refine and_congr ?_ ?_)) [] (by kernel_rfl) (by kernel_rfl) (Or.inl ⟨by rfl, ?_⟩) (by assumption) (fun hHeld' => ?_); rotate_left; (focus (intro w _; go_simp; try with_reducible rfl)); clear hHeld; have hHeld := hHeld'; clear hHeld'; (try simp only [Act.put, List.setIfInBounds_toArray, List.set_cons_zero, List.set_cons_succ])
                refine wpAnyD_take (i := 7) (oi := ⟨_, _, _, _, _, _⟩) (v := ?_) rfl (by kernel_rfl) (by kernel_rfl) (by kernel_rfl) (fun _ _ _ h => h) (by intro L w'; (try dsimp only); repeat (first | exact Iff.rfl | exact Till.ins (by decide) _ _ _ | refine and_congr ?_ ?_)) [] (by kernel_rfl) (by kernel_rfl) (Or.inl ⟨by rfl, ?_⟩) (by assumption) (fun hHeld' => ?_); rotate_left; (focus (intro w _; go_simp; try with_reducible rfl)); clear hHeld; have hHeld := hHeld'; clear hHeld'; (try simp only [Act.put, List.setIfInBounds_toArray, List.set_cons_zero, List.set_cons_succ])
                refine wpAnyD_take (i := 8) (oi := ⟨_, _, _, _, _, _⟩) (v := ?_) rfl (by kernel_rfl) (by kernel_rfl) (by kernel_rfl) (fun _ _ _ h => h) (by intro L w'; (try dsimp only); repeat (first | exact Iff.rfl | exact Till.ins (by decide) _ _ _ | refine and_congr ?_ ?_)) [9, 12, 13, 14] (by kernel_rfl) (by kernel_rfl) (Or.inl ⟨by rfl, ?_⟩) (by assumption) (fun hHeld' => ?_); rotate_left; (focus (intro w hSw0; obtain ⟨L, ho, hSw⟩ := hSw0; (try dsimp only at hSw); have HH := Till.of hSw ho rfl; have t4 : w.cell? ⟨B, 3, none⟩ = some (.slice (some ⟨sg3, 0, none⟩) (sn + 1) sc3) := HH.2.1 3; clear HH; clear ho hSw; go_simp; try with_reducible rfl)); clear hHeld; have hHeld := hHeld'; clear hHeld'; (try simp only [Act.put, List.setIfInBounds_toArray, List.set_cons_zero, List.set_cons_succ])
                refine wpAnyD_take (i := 9) (oi := ⟨_, _, _, _, _, _⟩) (v := ?_) rfl (by kernel_rfl) (by kernel_rfl) (by kernel_rfl) (fun _ _ _ h => h) (by intro L w'; (try dsimp only); repeat (first | exact Iff.rfl | exact Till.ins (by decide) _ _ _ | refine and_congr ?_ ?_)) [] (by kernel_rfl) (by kernel_rfl) (Or.inl ⟨by rfl, ?_⟩) (by assumption) (fun hHeld' => ?_); rotate_left; (focus (intro w _; go_simp; try with_reducible rfl)); clear hHeld; have hHeld := hHeld'; clear hHeld'; (try simp only [Act.put, List.setIfInBounds_toArray, List.set_cons_zero, List.set_cons_succ])
                refine wpAnyD_take (i := 10) (oi := ⟨_, _, _, _, _, _⟩) (v := ?_) rfl (by kernel_rfl) (by kernel_rfl) (by kernel_rfl) (fun _ _ _ h => h) (by intro L w'; (try dsimp only); repeat (first | exact Iff.rfl | exact Till.ins (by decide) _ _ _ | refine and_congr ?_ ?_)) [] (by kernel_rfl) (by kernel_rfl) (Or.inl ⟨by rfl, ?_⟩) (by assumption) (fun hHeld' => ?_); rotate_left; (focus (intro w _; go_simp; try with_reducible rfl)); clear hHeld; have hHeld := hHeld'; clear hHeld'; (try simp only [Act.put, List.setIfInBounds_toArray, List.set_cons_zero, List.set_cons_succ])
                refine wpAnyD_take (i := 11) (oi := ⟨_, _, _, _, _, _⟩) (v := ?_) rfl (by kernel_rfl) (by kernel_rfl) (by kernel_rfl) (fun _ _ _ h => h) (by intro L w'; (try dsimp only); repeat (first | exact Iff.rfl | exact Till.ins (by decide) _ _ _ | refine and_congr ?_ ?_)) [] (by kernel_rfl) (by kernel_rfl) (Or.inl ⟨by rfl, ?_⟩) (by assumption) (fun hHeld' => ?_); rotate_left; (focus (intro w _; go_simp; try with_reducible rfl)); clear hHeld; have hHeld := hHeld'; clear hHeld'; (try simp only [Act.put, List.setIfInBounds_toArray, List.set_cons_zero, List.set_cons_succ])
                refine wpAnyD_take (i := 12) (oi := ⟨_, _, _, _, _, _⟩) (v := ?_) rfl (by kernel_rfl) (by kernel_rfl) (by kernel_rfl) (fun _ _ _ h => h) (by intro L w'; (try dsimp only); repeat (first | exact Iff.rfl | exact Till.ins (by decide) _ _ _ | refine and_congr ?_ ?_)) [] (by kernel_rfl) (by kernel_rfl) (Or.inl ⟨by rfl, ?_⟩) (by assumption) (fun hHeld' => ?_); rotate_left; (focus (intro w _; go_simp; try with_reducible rfl)); clear hHeld; have hHeld := hHeld'; clear hHeld'; (try simp only [Act.put, List.setIfInBounds_toArray, List.set_cons_zero, List.set_cons_succ])
                refine wpAnyD_take (i := 13) (oi := ⟨_, _, _, _, _, _⟩) (v := ?_) rfl (by kernel_rfl) (by kernel_rfl) (by kernel_rfl) (fun _ _ _ h => h) (by intro L w'; (try dsimp only); repeat (first | exact Iff.rfl | exact Till.ins (by decide) _ _ _ | refine and_congr ?_ ?_)) [] (by kernel_rfl) (by kernel_rfl) (Or.inl ⟨by rfl, ?_⟩) (by assumption) (fun hHeld' => ?_); rotate_left; (focus (intro w _; go_simp; try with_reducible rfl)); clear hHeld; have hHeld := hHeld'; clear hHeld'; (try simp only [Act.put, List.setIfInBounds_toArray, List.set_cons_zero, List.set_cons_succ])
                refine wpAnyD_ready (rs := [14]) (by kernel_rfl) (by simp) ?_
                refine AllReadyD.cons (o := ⟨_, _, _, _, _, _⟩) rfl (fun K hK => ?_) AllReadyD.nil
                have g3 : w14.drew.cell? ⟨B, 3, none⟩ = some (.slice (some ⟨sg3, 0, none⟩) (sn + 1) sc3) := (hHeld rfl).2.1 3; have gf3 : w14.drew.frozen? ⟨B, 3, none⟩ = false := (hHeld rfl).2.2 3
                go_simp
                refine hK.out _ _ (by exact (fun h => absurd h (by decide))) (fun hHeld' => ?_)
                clear hHeld hK K
                have hHeld := hHeld'
                clear hHeld'
                try simp only [Act.put, List.setIfInBounds_toArray, List.set_cons_zero, List.set_cons_succ]
                refine wpAnyD_done (by kernel_rfl) ?_ _
                have HI15 : Hid (WInv ((w14.setCell ⟨B, 3, none⟩ (.slice (some ⟨sg3, 0, none⟩) sn sc3)).drew) KB B H m (.slice (some ⟨sg3, 0, none⟩) sn sc3) (.slice (some ⟨tg3, 0, none⟩) tn tc3) ov3 full3 seen th ps3) := Lib.hid (by
                  have h := (WInv.popS HI14.out sn (by rw [HSn.out]; simp)).below (Below.drew (Below.refl _ _))
                  rw [List.take_left' HSn.out.symm] at h
                  exact h)
                have HKs : Hid (WKeep B (.slice (some ⟨sg3, 0, none⟩) (sn + 1) sc3) (.slice (some ⟨tg3, 0, none⟩) tn tc3) (.slice (some ⟨sg3, 0, none⟩) sn sc3) (.slice (some ⟨tg3, 0, none⟩) tn tc3) w14 ((w14.setCell ⟨B, 3, none⟩ (.slice (some ⟨sg3, 0, none⟩) sn sc3)).drew)) := Lib.hid ((WKeep.pop (sv := .slice (some ⟨sg3, 0, none⟩) (sn + 1) sc3) (tv := .slice (some ⟨tg3, 0, none⟩) tn tc3) (sv' := .slice (some ⟨sg3, 0, none⟩) sn sc3) (tv' := .slice (some ⟨tg3, 0, none⟩) tn tc3) (fun _ h => h) (fun _ h => h) 3 (.slice (some ⟨sg3, 0, none⟩) sn sc3)).trans (WKeep.of_below (w := w14.setCell ⟨B, 3, none⟩ (.slice (some ⟨sg3, 0, none⟩) sn sc3)) (Below.drew (Below.refl _ _))))
                have HX15 := Lib.hid (HX14.out.keep HKs.out)
                have HL15 := Lib.hid (HL14.out.keep HKs.out)
                have HK15 := Lib.hid (HK14.out.trans HKs.out)
                have hwD : ((w14.drew.setCell ⟨B, 3, none⟩ (.slice (some ⟨sg3, 0, none⟩) sn sc3))) = ((w14.setCell ⟨B, 3, none⟩ (.slice (some ⟨sg3, 0, none⟩) sn sc3)).drew) := rfl
                try rw [hwD]
                have HR15 : Hid (RR = ((throwsM H x).drop (i + 1)).foldl (wF H m d x seen th) (ps3.map (·.2), full3)) := Lib.hid (by rw [HS.out, HSk.out, HR3.out])
                clear HKs hHeld HI14 HX14 HL14 HK14 hbd hwD HS HSk HR3
                generalize ((w14.setCell ⟨B, 3, none⟩ (.slice (some ⟨sg3, 0, none⟩) sn sc3)).drew) = w15 at *
                go_wp2
                exact ⟨⟨i + 1, _, _, _, _, ps3, by go_num, hlt, HI15, HR15, HX15, HL15, HK15⟩, by simp [intOf]; omega⟩
              · skip
                have HKz : Hid (WKeep B sv' tv' sv' tv' w9 (x7)) := Lib.hid (WKeep.of_below hHeld)
                have HIa := Lib.hid (HI9.out.below hHeld)
                have HXa := Lib.hid (HX9.out.keep HKz.out)
                have HLa := Lib.hid (HL9.out.keep HKz.out)
                have HKa := Lib.hid (HK9.out.trans HKz.out)
                have HR15 : Hid (RR = ((throwsM H x).drop (i + 1)).foldl (wF H m d x seen th) (ps'.map (·.2), false)) := Lib.hid (by rw [HS.out, HWF.out, if_pos HSkip.out])
                clear HKz HI9 HX9 HL9 HN9 HC9 HK9 HWF HSkip HNy hHeld HS
                generalize (x7) = w10 at *
                go_wp2
                exact ⟨⟨i + 1, _, _, _, _, ps', by go_num, hlt, HIa, HR15, HXa, HLa, HKa⟩, by simp [intOf]; omega⟩
        · have HN := Lib.hid ((HZ.out.set 0 (by simp) (.int .i64 H)).set 1 (by simp) (.int .i64 y))
          have HB9 : Hid (Below wr.heap.size wr ((x5.setCell ⟨wr.heap.size, 0, none⟩ (.int .i64 H)).setCell ⟨wr.heap.size, 1, none⟩ (.int .i64 y))) := Lib.hid hHeld
          have hN0 : wr.heap.size ≤ wr.heap.size := Nat.le_refl _
          have HN : Hid (BoxIs ((x5.setCell ⟨wr.heap.size, 0, none⟩ (.int .i64 H)).setCell ⟨wr.heap.size, 1, none⟩ (.int .i64 y)) wr.heap.size [.int .i64 H, .int .i64 y]) := HN
          generalize (x5.setCell ⟨wr.heap.size, 0, none⟩ (.int .i64 H)).setCell ⟨wr.heap.size, 1, none⟩ (.int .i64 y) = w9 at *
          obtain ⟨N0, hN0e⟩ : ∃ N0, wr.heap.size = N0 := ⟨_, rfl⟩
          have hN0 : wr.heap.size ≤ N0 := by omega
          rw [hN0e] at HN ⊢
          clear hHeld HB5 HZ z0 z1 zf0 zf1 zl hN0e
          have HI9 := Lib.hid (HI.out.below HB9.out)
          have HKz9 : Hid (WKeep B sv' tv' sv' tv' wr w9) := Lib.hid (WKeep.of_below HB9.out)
          have HX9 := Lib.hid (HX.out.keep HKz9.out)
          have HL9 := Lib.hid (HL.out.keep HKz9.out)
          have HC9 := Lib.hid (HCe.out.keep HKz9.out)
          have HK9 := Lib.hid (HK.out.trans HKz9.out)
          have HN9 : Hid (BoxFar w9 N0 [.int .i64 H, .int .i64 y] B sv' tv') := Lib.hid ⟨HN.out, by have := HI.out.box.1; omega, fun e => by have := (HI.out.sts.lt N0 e).2; omega, fun e => by have := (HI.out.thr.lt N0 e).2; omega⟩
          have n0 : w9.cell? ⟨N0, 0, none⟩ = some (.int .i64 (H : Int)) := HN.out.2.1 0
          have n1 : w9.cell? ⟨N0, 1, none⟩ = some (.int .i64 (y : Int)) := HN.out.2.1 1
          have b2 : w9.cell? ⟨B, 2, none⟩ = some (.int .i64 (m : Int)) := HI9.out.box.2.1 2
          have hNl := HN.out.1
          have hBl := HI9.out.box.1
          clear HI HX HL HK HCe x0 x1 l0 hlb hX0l c6 HB9 HNx hN0 HKz9 HN
          by_cases hd0 : d = 0
          · have HSkip : Hid (skipM m d x t seen = false) := Lib.hid (by unfold skipM; rw [decide_eq_false (by omega)]; rfl)
            have hdI : ¬ (1 : Int) < (d : Int) + 1 := by omega
            have hdd : decide ((1 : Int) < (d : Int) + 1) = false := decide_eq_false hdI
            have hdd2 : decide (1 < d + 1) = false := decide_eq_false (by omega)
            have hdd3 : decide (0 < d) = false := decide_eq_false (by omega)
            clear hd0
            go_wp2
            refine wp_region_held_drew (S := fun w' => Below w9.heap.size w9 w') (by kernel_rfl) (by exact ((Below.refl w9.heap.size w9)).drew) (fun hHeld => ?_)
            refine wpAnyH_take (i := 0) (oi := ⟨_, _, _, _, _, _⟩) (v := ?_) rfl (by kernel_rfl) (by kernel_rfl) (by kernel_rfl) (fun _ _ _ h => h) (Or.inl ⟨by rfl, ?_⟩) (by assumption) ?_; rotate_left; (focus (intro w hSw; (try dsimp only at hSw); go_simp; try with_reducible rfl)); (try simp only [Act.put, List.setIfInBounds_toArray, List.set_cons_zero, List.set_cons_succ])
            refine wpAnyH_take (i := 1) (oi := ⟨_, _, _, _, _, _⟩) (v := ?_) rfl (by kernel_rfl) (by kernel_rfl) (by kernel_rfl) (fun _ _ _ h => h) (Or.inl ⟨by rfl, ?_⟩) (by assumption) ?_; rotate_left; (focus (intro w hSw; (try dsimp only at hSw); go_simp; try with_reducible rfl)); (try simp only [Act.put, List.setIfInBounds_toArray, List.set_cons_zero, List.set_cons_succ])
            refine wpAnyH_take (i := 2) (oi := ⟨_, _, _, _, _, _⟩) (v := ?_) rfl (by kernel_rfl) (by kernel_rfl) (by kernel_rfl) (fun _ _ _ h => h) (Or.inl ⟨by rfl, ?_⟩) (by assumption) ?_; rotate_left; (focus (intro w hSw; (try dsimp only at hSw); go_simp; try with_reducible rfl)); (try simp only [Act.put, List.setIfInBounds_toArray, List.set_cons_zero, List.set_cons_succ])
            first | (refine wpAnyH_take (i := 3) (oi := ⟨_, _, _, _, _, _⟩) rfl (by kernel_rfl) (by kernel_rfl) (by kernel_rfl) (fun _ _ _ h => h) (Or.inr ⟨by rfl, rfl⟩) (by assumption) ?_; (try simp only [Act.put, List.setIfInBounds_toArray, List.set_cons_zero, List.set_cons_succ])) | (refine wpAnyH_take (i := 3) (oi := ⟨_, _, _, _, _, _⟩) (v := ?_) rfl (by kernel_rfl) (by kernel_rfl) (by kernel_rfl) (fun _ _ _ h => h) (Or.inl ⟨by rfl, ?_⟩) (by assumption) ?_; rotate_left; (focus (intro w hSw; (try dsimp only at hSw); go_simp; try with_reducible rfl)); (try simp only [Act.put, List.setIfInBounds_toArray, List.set_cons_zero, List.set_cons_succ]))
            first | (refine wpAnyH_take (i := 4) (oi := ⟨_, _, _, _, _, _⟩) rfl (by kernel_rfl) (by kernel_rfl) (by kernel_rfl) (fun _ _ _ h => h) (Or.inr ⟨by rfl, rfl⟩) (by assumption) ?_; (try simp only [Act.put, List.setIfInBounds_toArray, List.set_cons_zero, List.set_cons_succ])) | (refine wpAnyH_take (i := 4) (oi := ⟨_, _, _, _, _, _⟩) (v := ?_) rfl (by kernel_rfl) (by kernel_rfl) (by kernel_rfl) (fun _ _ _ h => h) (Or.inl ⟨by rfl, ?_⟩) (by assumption) ?_; rotate_left; (focus (intro w hSw; (try dsimp only at hSw); have t0 := cell_then hNl n0 hSw; have t1 := cell_then hNl n1 hSw; have t2 := cell_then hBl b2 hSw; go_simp; try with_reducible rfl)); (try simp only [Act.put, List.setIfInBounds_toArray, List.set_cons_zero, List.set_cons_succ]))
            first | (refine wpAnyH_take (i := 5) (oi := ⟨_, _, _, _, _, _⟩) rfl (by kernel_rfl) (by kernel_rfl) (by kernel_rfl) (fun _ _ _ h => h) (Or.inr ⟨by rfl, rfl⟩) (by assumption) ?_; (try simp only [Act.put, List.setIfInBounds_toArray, List.set_cons_zero, List.set_cons_succ])) | (refine wpAnyH_take (i := 5) (oi := ⟨_, _, _, _, _, _⟩) (v := ?_) rfl (by kernel_rfl) (by kernel_rfl) (by kernel_rfl) (fun _ _ _ h => h) (Or.inl ⟨by rfl, ?_⟩) (by assumption) ?_; rotate_left; (focus (intro w hSw; (try dsimp only at hSw); go_simp; try with_reducible rfl)); (try simp only [Act.put, List.setIfInBounds_toArray, List.set_cons_zero, List.set_cons_succ]))
            first | (refine wpAnyH_take (i := 6) (oi := ⟨_, _, _, _, _, _⟩) rfl (by kernel_rfl) (by kernel_rfl) (by kernel_rfl) (fun _ _ _ h => h) (Or.inr ⟨by rfl, rfl⟩) (by assumption) ?_; (try simp only [Act.put, List.setIfInBounds_toArray, List.set_cons_zero, List.set_cons_succ])) | (refine wpAnyH_take (i := 6) (oi := ⟨_, _, _, _, _, _⟩) (v := ?_) rfl (by kernel_rfl) (by kernel_rfl) (by kernel_rfl) (fun _ _ _ h => h) (Or.inl ⟨by rfl, ?_⟩) (by assumption) ?_; rotate_left; (focus (intro w hSw; (try dsimp only at hSw); go_simp; try with_reducible rfl)); (try simp only [Act.put, List.setIfInBounds_toArray, List.set_cons_zero, List.set_cons_succ]))
            first | (refine wpAnyH_take (i := 7) (oi := ⟨_, _, _, _, _, _⟩) rfl (by kernel_rfl) (by kernel_rfl) (by kernel_rfl) (fun _ _ _ h => h) (Or.inr ⟨by rfl, rfl⟩) (by assumption) ?_; (try simp only [Act.put, List.setIfInBounds_toArray, List.set_cons_zero, List.set_cons_succ])) | (refine wpAnyH_take (i := 7) (oi := ⟨_, _, _, _, _, _⟩) (v := ?_) rfl (by kernel_rfl) (by kernel_rfl) (by kernel_rfl) (fun _ _ _ h => h) (Or.inl ⟨by rfl, ?_⟩) (by assumption) ?_; rotate_left; (focus (intro w hSw; (try dsimp only at hSw); go_simp; try with_reducible rfl)); (try simp only [Act.put, List.setIfInBounds_toArray, List.set_cons_zero, List.set_cons_succ]))
            first | (refine wpAnyH_take (i := 8) (oi := ⟨_, _, _, _, _, _⟩) rfl (by kernel_rfl) (by kernel_rfl) (by kernel_rfl) (fun _ _ _ h => h) (Or.inr ⟨by rfl, rfl⟩) (by assumption) ?_; (try simp only [Act.put, List.setIfInBounds_toArray, List.set_cons_zero, List.set_cons_succ])) | (refine wpAnyH_take (i := 8) (oi := ⟨_, _, _, _, _, _⟩) (v := ?_) rfl (by kernel_rfl) (by kernel_rfl) (by kernel_rfl) (fun _ _ _ h => h) (Or.inl ⟨by rfl, ?_⟩) (by assumption) ?_; rotate_left; (focus (intro w hSw; (try dsimp only at hSw); go_simp; try with_reducible rfl)); (try simp only [Act.put, List.setIfInBounds_toArray, List.set_cons_zero, List.set_cons_succ]))
            first | (refine wpAnyH_take (i := 9) (oi := ⟨_, _, _, _, _, _⟩) rfl (by kernel_rfl) (by kernel_rfl) (by kernel_rfl) (fun _ _ _ h => h) (Or.inr ⟨by rfl, rfl⟩) (by assumption) ?_; (try simp only [Act.put, List.setIfInBounds_toArray, List.set_cons_zero, List.set_cons_succ])) | (refine wpAnyH_take (i := 9) (oi := ⟨_, _, _, _, _, _⟩) (v := ?_) rfl (by kernel_rfl) (by kernel_rfl) (by kernel_rfl) (fun _ _ _ h => h) (Or.inl ⟨by rfl, ?_⟩) (by assumption) ?_; rotate_left; (focus (intro w hSw; (try dsimp only at hSw); have t0 := cell_then hNl n0 hSw; have t1 := cell_then hNl n1 hSw; have t2 := cell_then hBl b2 hSw; go_simp; try with_reducible rfl)); (try simp only [Act.put, List.setIfInBounds_toArray, List.set_cons_zero, List.set_cons_succ]))
            first | (refine wpAnyH_take (i := 10) (oi := ⟨_, _, _, _, _, _⟩) rfl (by kernel_rfl) (by kernel_rfl) (by kernel_rfl) (fun _ _ _ h => h) (Or.inr ⟨by rfl, rfl⟩) (by assumption) ?_; (try simp only [Act.put, List.setIfInBounds_toArray, List.set_cons_zero, List.set_cons_succ])) | (refine wpAnyH_take (i := 10) (oi := ⟨_, _, _, _, _, _⟩) (v := ?_) rfl (by kernel_rfl) (by kernel_rfl) (by kernel_rfl) (fun _ _ _ h => h) (Or.inl ⟨by rfl, ?_⟩) (by assumption) ?_; rotate_left; (focus (intro w hSw; (try dsimp only at hSw); go_simp; try with_reducible rfl)); (try simp only [Act.put, List.setIfInBounds_toArray, List.set_cons_zero, List.set_cons_succ]))
            first | (refine wpAnyH_take (i := 11) (oi := ⟨_, _, _, _, _, _⟩) rfl (by kernel_rfl) (by kernel_rfl) (by kernel_rfl) (fun _ _ _ h => h) (Or.inr ⟨by rfl, rfl⟩) (by assumption) ?_; (try simp only [Act.put, List.setIfInBounds_toArray, List.set_cons_zero, List.set_cons_succ])) | (refine wpAnyH_take (i := 11) (oi := ⟨_, _, _, _, _, _⟩) (v := ?_) rfl (by kernel_rfl) (by kernel_rfl) (by kernel_rfl) (fun _ _ _ h => h) (Or.inl ⟨by rfl, ?_⟩) (by assumption) ?_; rotate_left; (focus (intro w hSw; (try dsimp only at hSw); go_simp; try with_reducible rfl)); (try simp only [Act.put, List.setIfInBounds_toArray, List.set_cons_zero, List.set_cons_succ]))
            first | (refine wpAnyH_take (i := 12) (oi := ⟨_, _, _, _, _, _⟩) rfl (by kernel_rfl) (by kernel_rfl) (by kernel_rfl) (fun _ _ _ h => h) (Or.inr ⟨by rfl, rfl⟩) (by assumption) ?_; (try simp only [Act.put, List.setIfInBounds_toArray, List.set_cons_zero, List.set_cons_succ])) | (refine wpAnyH_take (i := 12) (oi := ⟨_, _, _, _, _, _⟩) (v := ?_) rfl (by kernel_rfl) (by kernel_rfl) (by kernel_rfl) (fun _ _ _ h => h) (Or.inl ⟨by rfl, ?_⟩) (by assumption) ?_; rotate_left; (focus (intro w hSw; (try dsimp only at hSw); go_simp; try with_reducible rfl)); (try simp only [Act.put, List.setIfInBounds_toArray, List.set_cons_zero, List.set_cons_succ]))
            first | (refine wpAnyH_take (i := 13) (oi := ⟨_, _, _, _, _, _⟩) rfl (by kernel_rfl) (by kernel_rfl) (by kernel_rfl) (fun _ _ _ h => h) (Or.inr ⟨by rfl, rfl⟩) (by assumption) ?_; (try simp only [Act.put, List.setIfInBounds_toArray, List.set_cons_zero, List.set_cons_succ])) | (refine wpAnyH_take (i := 13) (oi := ⟨_, _, _, _, _, _⟩) (v := ?_) rfl (by kernel_rfl) (by kernel_rfl) (by kernel_rfl) (fun _ _ _ h => h) (Or.inl ⟨by rfl, ?_⟩) (by assumption) ?_; rotate_left; (focus (intro w hSw; (try dsimp only at hSw); have t0 := cell_then hNl n0 hSw; have t1 := cell_then hNl n1 hSw; have t2 := cell_then hBl b2 hSw; go_simp; try with_reducible rfl)); (try simp only [Act.put, List.setIfInBounds_toArray, List.set_cons_zero, List.set_cons_succ]))
            (refine wpAnyH_take (i := 14) (oi := ⟨_, _, _, _, _, _⟩) rfl (by kernel_rfl) (by kernel_rfl) (by kernel_rfl) (fun _ _ _ h => h) (Or.inr ⟨by rfl, rfl⟩) (by assumption) ?_; (try simp only [Act.put, List.setIfInBounds_toArray, List.set_cons_zero, List.set_cons_succ]))
            first | (refine wpAnyH_take (i := 15) (oi := ⟨_, _, _, _, _, _⟩) rfl (by kernel_rfl) (by kernel_rfl) (by kernel_rfl) (fun _ _ _ h => h) (Or.inr ⟨by rfl, rfl⟩) (by assumption) ?_; (try simp only [Act.put, List.setIfInBounds_toArray, List.set_cons_zero, List.set_cons_succ])) | (refine wpAnyH_take (i := 15) (oi := ⟨_, _, _, _, _, _⟩) (v := ?_) rfl (by kernel_rfl) (by kernel_rfl) (by kernel_rfl) (fun _ _ _ h => h) (Or.inl ⟨by rfl, ?_⟩) (by assumption) ?_; rotate_left; (focus (intro w hSw; (try dsimp only at hSw); go_simp; try with_reducible rfl)); (try simp only [Act.put, List.setIfInBounds_toArray, List.set_cons_zero, List.set_cons_succ]))
            refine wpAnyH_take (i := 16) (oi := ⟨_, _, _, _, _, _⟩) (v := ?_) rfl (by kernel_rfl) (by kernel_rfl) (by kernel_rfl) (fun _ _ _ h => h) (Or.inl ⟨by rfl, ?_⟩) (by assumption) ?_; rotate_left; (focus (intro w hSw; (try dsimp only at hSw); go_simp; try with_reducible rfl)); (try simp only [Act.put, List.setIfInBounds_toArray, List.set_cons_zero, List.set_cons_succ])
            refine wpAnyH_done (by kernel_rfl) ?_ _
            clear n0 n1 b2 hNl hBl hdI hdd hdd2 hdd3
            have HKz : Hid (WKeep B sv' tv' sv' tv' w9 (w9.drew)) := Lib.hid (WKeep.of_below hHeld)
            have HIa := Lib.hid (HI9.out.below hHeld)
            have HXa := Lib.hid (HX9.out.keep HKz.out)
            have HLa := Lib.hid (HL9.out.keep HKz.out)
            have HNa := Lib.hid (HN9.out.keep HKz.out)
            have HCa := Lib.hid (HC9.out.keep HKz.out)
            have HKa := Lib.hid (HK9.out.trans HKz.out)
            have HSk : Hid (wF H m d x seen th (ps'.map (·.2), false) t = wS H m d y (seen ++ [y]) (th ++ [(t : Int)]) (ps'.map (·.2), false)) := Lib.hid (by rw [HWF.out, if_neg (by rw [HSkip.out]; decide)])
            clear HKz HI9 HX9 HL9 HN9 HC9 HK9 HWF HSkip HNy hHeld
            generalize (w9.drew) = w10 at *
            obtain ⟨sa, sn, sc, rfl⟩ := HIa.out.ss
            have HSn : Hid (sn = seen.length) := Lib.hid (by have h := sts_len HIa.out.sts; rw [stM_len] at h; exact h)
            have hbd : Below w10.heap.size w10 w10.drew := (Below.refl _ _).drew
            go_wp2
            refine wp_region_dep (S := fun L w' => Till 10 (fun w' => BoxIs w' B [.int .i64 H, .int .i64 H, .int .i64 m, .slice sa sn sc, tv', ov', .bool false] ∧ BoxIs w' N0 [.int .i64 H, .int .i64 y]) L w') (by kernel_rfl) (by exact (fun _ => ⟨HIa.out.box.below hbd, HNa.out.1.below hbd⟩)) (fun hHeld => ?_)
            refine wpAnyD_take (i := 0) (oi := ⟨_, _, _, _, _, _⟩) (v := ?_) rfl (by kernel_rfl) (by kernel_rfl) (by kernel_rfl) (fun _ _ _ h => h) (by intro L w'; (try dsimp only); repeat (first | exact Iff.rfl | exact Till.ins (by decide) _ _ _ | refine and_congr ?_ ?_)) [] (by kernel_rfl) (by kernel_rfl) (Or.inl ⟨by rfl, ?_⟩) (by assumption) (fun hHeld' => ?_); rotate_left; (focus (intro w _; go_simp; try with_reducible rfl)); clear hHeld; have hHeld := hHeld'; clear hHeld'; (try simp only [Act.put, List.setIfInBounds_toArray, List.set_cons_zero, List.set_cons_succ])
            refine wpAnyD_take (i := 1) (oi := ⟨_, _, _, _, _, _⟩) (v := ?_) rfl (by kernel_rfl) (by kernel_rfl) (by kernel_rfl) (fun _ _ _ h => h) (by intro L w'; (try dsimp only); repeat (first | exact Iff.rfl | exact Till.ins (by decide) _ _ _ | refine and_congr ?_ ?_)) [] (by kernel_rfl) (by kernel_rfl) (Or.inl ⟨by rfl, ?_⟩) (by assumption) (fun hHeld' => ?_); rotate_left; (focus (intro w _; go_simp; try with_reducible rfl)); clear hHeld; have hHeld := hHeld'; clear hHeld'; (try simp only [Act.put, List.setIfInBounds_toArray, List.set_cons_zero, List.set_cons_succ])
            refine wpAnyD_take (i := 2) (oi := ⟨_, _, _, _, _, _⟩) (v := ?_) rfl (by kernel_rfl) (by kernel_rfl) (by kernel_rfl) (fun _ _ _ h => h) (by intro L w'; (try dsimp only); repeat (first | exact Iff.rfl | exact Till.ins (by decide) _ _ _ | refine and_congr ?_ ?_)) [] (by kernel_rfl) (by kernel_rfl) (Or.inl ⟨by rfl, ?_⟩) (by assumption) (fun hHeld' => ?_); rotate_left; (focus (intro w _; go_simp; try with_reducible rfl)); clear hHeld; have hHeld := hHeld'; clear hHeld'; (try simp only [Act.put, List.setIfInBounds_toArray, List.set_cons_zero, List.set_cons_succ])
            refine wpAnyD_take (i := 3) (oi := ⟨_, _, _, _, _, _⟩) (v := ?_) rfl (by kernel_rfl) (by kernel_rfl) (by kernel_rfl) (fun _ _ _ h => h) (by intro L w'; (try dsimp only); repeat (first | exact Iff.rfl | exact Till.ins (by decide) _ _ _ | refine and_congr ?_ ?_)) [] (by kernel_rfl) (by kernel_rfl) (Or.inl ⟨by rfl, ?_⟩) (by assumption) (fun hHeld' => ?_); rotate_left; (focus (intro w _; go_simp; try with_reducible rfl)); clear hHeld; have hHeld := hHeld'; clear hHeld'; (try simp only [Act.put, List.setIfInBounds_toArray, List.set_cons_zero, List.set_cons_succ])
            refine wpAnyD_take (i := 4) (oi := ⟨_, _, _, _, _, _⟩) (v := ?_) rfl (by kernel_rfl) (by kernel_rfl) (by kernel_rfl) (fun _ _ _ h => h) (by intro L w'; (try dsimp only); repeat (first | exact Iff.rfl | exact Till.ins (by decide) _ _ _ | refine and_congr ?_ ?_)) [7, 8, 9, 10] (by kernel_rfl) (by kernel_rfl) (Or.inl ⟨by rfl, ?_⟩) (by assumption) (fun hHeld' => ?_); rotate_left; (focus (intro w hSw0; obtain ⟨L, ho, hSw⟩ := hSw0; (try dsimp only at hSw); have HH := Till.of hSw ho rfl; have t3 : w.cell? ⟨B, 3, none⟩ = some (.slice sa sn sc) := HH.1.2.1 3; have n0 : w.cell? ⟨N0, 0, none⟩ = some (.int .i64 (H : Int)) := HH.2.2.1 0; have n1 : w.cell? ⟨N0, 1, none⟩ = some (.int .i64 (y : Int)) := HH.2.2.1 1; clear HH; clear ho hSw; go_simp; try with_reducible rfl)); clear hHeld; have hHeld := hHeld'; clear hHeld'; (try simp only [Act.put, List.setIfInBounds_toArray, List.set_cons_zero, List.set_cons_succ])
            refine wpAnyD_take (i := 5) (oi := ⟨_, _, _, _, _, _⟩) (v := ?_) rfl (by kernel_rfl) (by kernel_rfl) (by kernel_rfl) (fun _ _ _ h => h) (by intro L w'; (try dsimp only); repeat (first | exact Iff.rfl | exact Till.ins (by decide) _ _ _ | refine and_congr ?_ ?_)) [6, 8, 9, 10] (by kernel_rfl) (by kernel_rfl) (Or.inl ⟨by rfl, ?_⟩) (by assumption) (fun hHeld' => ?_); rotate_left; (focus (intro w hSw0; obtain ⟨L, ho, hSw⟩ := hSw0; (try dsimp only at hSw); have HH := Till.of hSw ho rfl; have t3 : w.cell? ⟨B, 3, none⟩ = some (.slice sa sn sc) := HH.1.2.1 3; have n0 : w.cell? ⟨N0, 0, none⟩ = some (.int .i64 (H : Int)) := HH.2.2.1 0; have n1 : w.cell? ⟨N0, 1, none⟩ = some (.int .i64 (y : Int)) := HH.2.2.1 1; clear HH; clear ho hSw; go_simp; try with_reducible rfl)); clear hHeld; have hHeld := hHeld'; clear hHeld'; (try simp only [Act.put, List.setIfInBounds_toArray, List.set_cons_zero, List.set_cons_succ])
            refine wpAnyD_ready (rs := [6]) (by kernel_rfl) (by simp) ?_
            refine AllReadyD.cons (o := ⟨_, _, _, _, _, _⟩) rfl (fun K hK => ?_) AllReadyD.nil
            go_simp
            refine hK.out _ _ (by exact (fun h => ⟨(hHeld h).1.alloc _, (hHeld h).2.alloc _⟩)) (fun hHeld' => ?_)
            clear hHeld hK K
            have hHeld := hHeld'
            clear hHeld'
            try simp only [Act.put, List.setIfInBounds_toArray, List.set_cons_zero, List.set_cons_succ]
            refine wpAnyD_ready (rs := [7]) (by kernel_rfl) (by simp) ?_
            refine AllReadyD.cons (o := ⟨_, _, _, _, _, _⟩) rfl (fun K hK => ?_) AllReadyD.nil
            refine step_app_sts rfl _ _ rfl KB (.slice sa sn sc) (stM H seen) rfl ((HIa.out.below hbd).below (below_allocP' _ _)).sts _ _ ((H : Int), (y : Int)) rfl (oneSt _ _ _ _) (by rw [stM_len]; have := Hsl.out; omega) (by have h1 := HIa.out.kw; simp; omega) ?_; intro a5 c5 x6 ho5 hg5 hl5; have HX5 := Lib.hid ho5; have HG5 := Lib.hid hg5; have HL5 := Lib.hid hl5; have hS' : ∀ L, Till 10 (fun w' => BoxIs w' B [.int .i64 H, .int .i64 H, .int .i64 m, .slice sa sn sc, tv', ov', .bool false] ∧ BoxIs w' N0 [.int .i64 H, .int .i64 y]) L x6 := fun _ _ => ⟨box_grown ((HIa.out.below hbd).below (below_allocP' _ _)).box hg5 HIa.out.sB, box_grown ((HNa.out.1.below hbd).alloc _) hg5 HNa.out.2.2.1⟩; clear ho5 hg5 hl5
            refine hK.out _ _ (by first | exact hS' | exact hS' _) (fun hHeld' => ?_)
            clear hHeld hK K
            have hHeld := hHeld'
            clear hHeld'
            try simp only [Act.put, List.setIfInBounds_toArray, List.set_cons_zero, List.set_cons_succ]
            refine wpAnyD_take (i := 8) (oi := ⟨_, _, _, _, _, _⟩) (v := ?_) rfl (by kernel_rfl) (by kernel_rfl) (by kernel_rfl) (fun _ _ _ h => h) (by intro L w'; (try dsimp only); repeat (first | exact Iff.rfl | exact Till.ins (by decide) _ _ _ | refine and_congr ?_ ?_)) [] (by kernel_rfl) (by kernel_rfl) (Or.inl ⟨by rfl, ?_⟩) (by assumption) (fun hHeld' => ?_); rotate_left; (focus (intro w _; go_simp; try with_reducible rfl)); clear hHeld; have hHeld := hHeld'; clear hHeld'; (try simp only [Act.put, List.setIfInBounds_toArray, List.set_cons_zero, List.set_cons_succ])
            refine wpAnyD_take (i := 9) (oi := ⟨_, _, _, _, _, _⟩) (v := ?_) rfl (by kernel_rfl) (by kernel_rfl) (by kernel_rfl) (fun _ _ _ h => h) (by intro L w'; (try dsimp only); repeat (first | exact Iff.rfl | exact Till.ins (by decide) _ _ _ | refine and_congr ?_ ?_)) [] (by kernel_rfl) (by kernel_rfl) (Or.inl ⟨by rfl, ?_⟩) (by assumption) (fun hHeld' => ?_); rotate_left; (focus (intro w _; go_simp; try with_reducible rfl)); clear hHeld; have hHeld := hHeld'; clear hHeld'; (try simp only [Act.put, List.setIfInBounds_toArray, List.set_cons_zero, List.set_cons_succ])
            refine wpAnyD_ready (rs := [10]) (by kernel_rfl) (by simp) ?_
            refine AllReadyD.cons (o := ⟨_, _, _, _, _, _⟩) rfl (fun K hK => ?_) AllReadyD.nil
            have g3 : x6.cell? ⟨B, 3, none⟩ = some (.slice sa sn sc) := (hHeld rfl).1.2.1 3; have gf3 : x6.frozen? ⟨B, 3, none⟩ = false := (hHeld rfl).1.2.2 3
            go_simp
            refine hK.out _ _ (by exact (fun h => absurd h (by decide))) (fun hHeld' => ?_)
            clear hHeld hK K
            have hHeld := hHeld'
            clear hHeld'
            try simp only [Act.put, List.setIfInBounds_toArray, List.set_cons_zero, List.set_cons_succ]
            refine wpAnyD_done (by kernel_rfl) ?_ _
            have hsl9 : (stM H seen).length = sn := by rw [stM_len]; exact HSn.out.symm
            have HI10 : Hid (WInv (x6.setCell ⟨B, 3, none⟩ (.slice a5 ((stM H seen).length + 1) c5)) KB B H m (.slice a5 ((stM H seen).length + 1) c5) tv' ov' false (seen ++ [y]) th ps') := Lib.hid (WInv.pushS ((HIa.out.below hbd).below (below_allocP' _ _)) (by have h := HX5.out; unfold stM at h ⊢; rw [List.map_append]; exact h) HG5.out HL5.out ⟨_, _, _, rfl⟩)
            have HKs : Hid (WKeep B (.slice sa sn sc) tv' (.slice a5 ((stM H seen).length + 1) c5) tv' w10 (x6.setCell ⟨B, 3, none⟩ (.slice a5 ((stM H seen).length + 1) c5))) := Lib.hid ((WKeep.of_below (Below.trans' hbd (below_allocP' _ _))).trans (WKeep.pushS HG5.out HL5.out 3 _))
            clear HX5 HG5 HL5 hHeld HIa
            generalize x6.setCell ⟨B, 3, none⟩ (.slice a5 ((stM H seen).length + 1) c5) = w11 at *
            rw [hsl9] at HI10 HKs ⊢
            have HX10 := Lib.hid (HXa.out.keep HKs.out)
            have HL10 := Lib.hid (HLa.out.keep HKs.out)
            have HN10 := Lib.hid (HNa.out.keep HKs.out)
            have HC10 := Lib.hid (HCa.out.keep HKs.out)
            have HK10 := Lib.hid (HKa.out.trans HKs.out)
            clear HXa HLa HNa HCa HKa HKs hbd hsl9
            obtain ⟨ta, tn, tc, rfl⟩ := HI10.out.tl
            have hbd : Below w11.heap.size w11 w11.drew := (Below.refl _ _).drew
            have HTn : Hid (tn = th.length) := Lib.hid (by obtain ⟨_, _, e⟩ := slice_of_own HI10.out.thr; injection e)
            go_wp2
            refine wp_region_dep (S := fun L w' => Till 13 (fun w' => BoxIs w' B [.int .i64 H, .int .i64 H, .int .i64 m, .slice a5 (sn + 1) c5, .slice ta tn tc, ov', .bool false] ∧ w'.cell? ⟨lb, lo + i, none⟩ = some (.int .i64 (t : Int))) L w') (by kernel_rfl) (by exact (fun _ => ⟨HI10.out.box.below hbd, cell_then HC10.out.2.1 HC10.out.1 hbd⟩)) (fun hHeld => ?_)
            refine wpAnyD_take (i := 0) (oi := ⟨_, _, _, _, _, _⟩) (v := ?_) rfl (by kernel_rfl) (by kernel_rfl) (by kernel_rfl) (fun _ _ _ h => h) (by intro L w'; (try dsimp only); repeat (first | exact Iff.rfl | exact Till.ins (by decide) _ _ _ | refine and_congr ?_ ?_)) [] (by kernel_rfl) (by kernel_rfl) (Or.inl ⟨by rfl, ?_⟩) (by assumption) (fun hHeld' => ?_); rotate_left; (focus (intro w _; go_simp; try with_reducible rfl)); clear hHeld; have hHeld := hHeld'; clear hHeld'; (try simp only [Act.put, List.setIfInBounds_toArray, List.set_cons_zero, List.set_cons_succ])
            refine wpAnyD_take (i := 1) (oi := ⟨_, _, _, _, _, _⟩) (v := ?_) rfl (by kernel_rfl) (by kernel_rfl) (by kernel_rfl) (fun _ _ _ h => h) (by intro L w'; (try dsimp only); repeat (first | exact Iff.rfl | exact Till.ins (by decide) _ _ _ | refine and_congr ?_ ?_)) [] (by kernel_rfl) (by kernel_rfl) (Or.inl ⟨by rfl, ?_⟩) (by assumption) (fun hHeld' => ?_); rotate_left; (focus (intro w _; go_simp; try with_reducible rfl)); clear hHeld; have hHeld := hHeld'; clear hHeld'; (try simp only [Act.put, List.setIfInBounds_toArray, List.set_cons_zero, List.set_cons_succ])
            refine wpAnyD_take (i := 2) (oi := ⟨_, _, _, _, _, _⟩) (v := ?_) rfl (by kernel_rfl) (by kernel_rfl) (by kernel_rfl) (fun _ _ _ h => h) (by intro L w'; (try dsimp only); repeat (first | exact Iff.rfl | exact Till.ins (by decide) _ _ _ | refine and_congr ?_ ?_)) [] (by kernel_rfl) (by kernel_rfl) (Or.inl ⟨by rfl, ?_⟩) (by assumption) (fun hHeld' => ?_); rotate_left; (focus (intro w _; go_simp; try with_reducible rfl)); clear hHeld; have hHeld := hHeld'; clear hHeld'; (try simp only [Act.put, List.setIfInBounds_toArray, List.set_cons_zero, List.set_cons_succ])
            refine wpAnyD_take (i := 3) (oi := ⟨_, _, _, _, _, _⟩) (v := ?_) rfl (by kernel_rfl) (by kernel_rfl) (by kernel_rfl) (fun _ _ _ h => h) (by intro L w'; (try dsimp only); repeat (first | exact Iff.rfl | exact Till.ins (by decide) _ _ _ | refine and_congr ?_ ?_)) [] (by kernel_rfl) (by kernel_rfl) (Or.inl ⟨by rfl, ?_⟩) (by assumption) (fun hHeld' => ?_); rotate_left; (focus (intro w _; go_simp; try with_reducible rfl)); clear hHeld; have hHeld := hHeld'; clear hHeld'; (try simp only [Act.put, List.setIfInBounds_toArray, List.set_cons_zero, List.set_cons_succ])
            refine wpAnyD_take (i := 4) (oi := ⟨_, _, _, _, _, _⟩) (v := ?_) rfl (by kernel_rfl) (by kernel_rfl) (by kernel_rfl) (fun _ _ _ h => h) (by intro L w'; (try dsimp only); repeat (first | exact Iff.rfl | exact Till.ins (by decide) _ _ _ | refine and_congr ?_ ?_)) [10, 11, 12, 13] (by kernel_rfl) (by kernel_rfl) (Or.inl ⟨by rfl, ?_⟩) (by assumption) (fun hHeld' => ?_); rotate_left; (focus (intro w hSw0; obtain ⟨L, ho, hSw⟩ := hSw0; (try dsimp only at hSw); have HH := Till.of hSw ho rfl; have t4 : w.cell? ⟨B, 4, none⟩ = some (.slice ta tn tc) := HH.1.2.1 4; have n0 := HH.2; clear HH; clear ho hSw; go_simp; try with_reducible rfl)); clear hHeld; have hHeld := hHeld'; clear hHeld'; (try simp only [Act.put, List.setIfInBounds_toArray, List.set_cons_zero, List.set_cons_succ])
            refine wpAnyD_take (i := 5) (oi := ⟨_, _, _, _, _, _⟩) (v := ?_) rfl (by kernel_rfl) (by kernel_rfl) (by kernel_rfl) (fun _ _ _ h => h) (by intro L w'; (try dsimp only); repeat (first | exact Iff.rfl | exact Till.ins (by decide) _ _ _ | refine and_congr ?_ ?_)) [] (by kernel_rfl) (by kernel_rfl) (Or.inl ⟨by rfl, ?_⟩) (by assumption) (fun hHeld' => ?_); rotate_left; (focus (intro w _; go_simp; try with_reducible rfl)); clear hHeld; have hHeld := hHeld'; clear hHeld'; (try simp only [Act.put, List.setIfInBounds_toArray, List.set_cons_zero, List.set_cons_succ])
            refine wpAnyD_take (i := 6) (oi := ⟨_, _, _, _, _, _⟩) (v := ?_) rfl (by kernel_rfl) (by kernel_rfl) (by kernel_rfl) (fun _ _ _ h => h) (by intro L w'; (try dsimp only); repeat (first | exact Iff.rfl | exact Till.ins (by decide) _ _ _ | refine and_congr ?_ ?_)) [] (by kernel_rfl) (by kernel_rfl) (Or.inl ⟨by rfl, ?_⟩) (by assumption) (fun hHeld' => ?_); rotate_left; (focus (intro w _; go_simp; try with_reducible rfl)); clear hHeld; have hHeld := hHeld'; clear hHeld'; (try simp only [Act.put, List.setIfInBounds_toArray, List.set_cons_zero, List.set_cons_succ])
            refine wpAnyD_take (i := 7) (oi := ⟨_, _, _, _, _, _⟩) (v := ?_) rfl (by kernel_rfl) (by kernel_rfl) (by kernel_rfl) (fun _ _ _ h => h) (by intro L w'; (try dsimp only); repeat (first | exact Iff.rfl | exact Till.ins (by decide) _ _ _ | refine and_congr ?_ ?_)) [] (by kernel_rfl) (by kernel_rfl) (Or.inl ⟨by rfl, ?_⟩) (by assumption) (fun hHeld' => ?_); rotate_left; (focus (intro w _; go_simp; try with_reducible rfl)); clear hHeld; have hHeld := hHeld'; clear hHeld'; (try simp only [Act.put, List.setIfInBounds_toArray, List.set_cons_zero, List.set_cons_succ])
            refine wpAnyD_take (i := 8) (oi := ⟨_, _, _, _, _, _⟩) (v := ?_) rfl (by kernel_rfl) (by kernel_rfl) (by kernel_rfl) (fun _ _ _ h => h) (by intro L w'; (try dsimp only); repeat (first | exact Iff.rfl | exact Till.ins (by decide) _ _ _ | refine and_congr ?_ ?_)) [9, 11, 12, 13] (by kernel_rfl) (by kernel_rfl) (Or.inl ⟨by rfl, ?_⟩) (by assumption) (fun hHeld' => ?_); rotate_left; (focus (intro w hSw0; obtain ⟨L, ho, hSw⟩ := hSw0; (try dsimp only at hSw); have HH := Till.of hSw ho rfl; have t4 : w.cell? ⟨B, 4, none⟩ = some (.slice ta tn tc) := HH.1.2.1 4; have n0 := HH.2; clear HH; clear ho hSw; go_simp; try with_reducible rfl)); clear hHeld; have hHeld := hHeld'; clear hHeld'; (try simp only [Act.put, List.setIfInBounds_toArray, List.set_cons_zero, List.set_cons_succ])
            refine wpAnyD_ready (rs := [9]) (by kernel_rfl) (by simp) ?_
            refine AllReadyD.cons (o := ⟨_, _, _, _, _, _⟩) rfl (fun K hK => ?_) AllReadyD.nil
            go_simp
            refine hK.out _ _ (by exact (fun h => ⟨(hHeld h).1.alloc _, cell_then (World.block_lt_of_cell? _ _ (hHeld h).2) (hHeld h).2 (below_allocP' _ _)⟩)) (fun hHeld' => ?_)
            clear hHeld hK K
            have hHeld := hHeld'
            clear hHeld'
            try simp only [Act.put, List.setIfInBounds_toArray, List.set_cons_zero, List.set_cons_succ]
            refine wpAnyD_ready (rs := [10]) (by kernel_rfl) (by simp) ?_
            refine AllReadyD.cons (o := ⟨_, _, _, _, _, _⟩) rfl (fun K hK => ?_) AllReadyD.nil
            refine step_app_intsI rfl _ _ rfl KB (.slice ta tn tc) th rfl ((HI10.out.below hbd).below (below_allocP' _ _)).thr _ 1 1 [(t : Int)] rfl rfl (ints_new _ _ _) (by have := Hth.out; simp; omega) (by have h1 := HI10.out.kw; simp; omega) ?_; intro a7 n7 c7 x8 ho7 hg7 hl7; have HX7 := Lib.hid ho7; have HG7 := Lib.hid hg7; have HL7 := Lib.hid hl7; have hS' : ∀ L, Till 13 (fun w' => BoxIs w' B [.int .i64 H, .int .i64 H, .int .i64 m, .slice a5 (sn + 1) c5, .slice ta tn tc, ov', .bool false] ∧ w'.cell? ⟨lb, lo + i, none⟩ = some (.int .i64 (t : Int))) L x8 := fun _ _ => ⟨box_grown ((HI10.out.below hbd).below (below_allocP' _ _)).box hg7 HI10.out.tB, (World.cell?_of_block (a := ⟨lb, lo + i, none⟩) (hg7.block lb (by have := HC10.out.2.1; simp; omega) (fun e => HC10.out.2.2.2.2 e.symm))).trans (cell_then (World.block_lt_of_cell? _ _ (cell_then HC10.out.2.1 HC10.out.1 hbd)) (cell_then HC10.out.2.1 HC10.out.1 hbd) (below_allocP' _ _))⟩; clear ho7 hg7 hl7
            refine hK.out _ _ (by first | exact hS' | exact hS' _) (fun hHeld' => ?_)
            clear hHeld hK K
            have hHeld := hHeld'
            clear hHeld'
            try simp only [Act.put, List.setIfInBounds_toArray, List.set_cons_zero, List.set_cons_succ]
            refine wpAnyD_take (i := 11) (oi := ⟨_, _, _, _, _, _⟩) (v := ?_) rfl (by kernel_rfl) (by kernel_rfl) (by kernel_rfl) (fun _ _ _ h => h) (by intro L w'; (try dsimp only); repeat (first | exact Iff.rfl | exact Till.ins (by decide) _ _ _ | refine and_congr ?_ ?_)) [] (by kernel_rfl) (by kernel_rfl) (Or.inl ⟨by rfl, ?_⟩) (by assumption) (fun hHeld' => ?_); rotate_left; (focus (intro w _; go_simp; try with_reducible rfl)); clear hHeld; have hHeld := hHeld'; clear hHeld'; (try simp only [Act.put, List.setIfInBounds_toArray, List.set_cons_zero, List.set_cons_succ])
            refine wpAnyD_take (i := 12) (oi := ⟨_, _, _, _, _, _⟩) (v := ?_) rfl (by kernel_rfl) (by kernel_rfl) (by kernel_rfl) (fun _ _ _ h => h) (by intro L w'; (try dsimp only); repeat (first | exact Iff.rfl | exact Till.ins (by decide) _ _ _ | refine and_congr ?_ ?_)) [] (by kernel_rfl) (by kernel_rfl) (Or.inl ⟨by rfl, ?_⟩) (by assumption) (fun hHeld' => ?_); rotate_left; (focus (intro w _; go_simp; try with_reducible rfl)); clear hHeld; have hHeld := hHeld'; clear hHeld'; (try simp only [Act.put, List.setIfInBounds_toArray, List.set_cons_zero, List.set_cons_succ])
            refine wpAnyD_ready (rs := [13]) (by kernel_rfl) (by simp) ?_
            refine AllReadyD.cons (o := ⟨_, _, _, _, _, _⟩) rfl (fun K hK => ?_) AllReadyD.nil
            have g3 : x8.cell? ⟨B, 4, none⟩ = some (.slice ta tn tc) := (hHeld rfl).1.2.1 4; have gf3 : x8.frozen? ⟨B, 4, none⟩ = false := (hHeld rfl).1.2.2 4
            go_simp
            refine hK.out _ _ (by exact (fun h => absurd h (by decide))) (fun hHeld' => ?_)
            clear hHeld hK K
            have hHeld := hHeld'
            clear hHeld'
            try simp only [Act.put, List.setIfInBounds_toArray, List.set_cons_zero, List.set_cons_succ]
            refine wpAnyD_done (by kernel_rfl) ?_ _
            have HI12 : Hid (WInv (x8.setCell ⟨B, 4, none⟩ (.slice a7 n7 c7)) KB B H m (.slice a5 (sn + 1) c5) (.slice a7 n7 c7) ov' false (seen ++ [y]) (th ++ [(t : Int)]) ps') := Lib.hid (WInv.pushT ((HI10.out.below hbd).below (below_allocP' _ _)) HX7.out HG7.out HL7.out ⟨_, _, _, rfl⟩)
            have HKs : Hid (WKeep B (.slice a5 (sn + 1) c5) (.slice ta tn tc) (.slice a5 (sn + 1) c5) (.slice a7 n7 c7) w11 (x8.setCell ⟨B, 4, none⟩ (.slice a7 n7 c7))) := Lib.hid ((WKeep.of_below (Below.trans' hbd (below_allocP' _ _))).trans (WKeep.pushT HG7.out HL7.out 4 _))
            clear HX7 HG7 HL7 hHeld HI10
            generalize x8.setCell ⟨B, 4, none⟩ (.slice a7 n7 c7) = w12 at *
            have HX12 := Lib.hid (HX10.out.keep HKs.out)
            have HL12 := Lib.hid (HL10.out.keep HKs.out)
            have HN12 := Lib.hid (HN10.out.keep HKs.out)
            have HK12 := Lib.hid (HK10.out.trans HKs.out)
            clear HX10 HL10 HN10 HC10 HK10 HKs hbd
            have HRec := Lib.hid (IH.out y (seen ++ [y]) (th ++ [(t : Int)]) w12 _ _ _ ps' hy (by have := Hsl.out; simp; omega) (by have := Hth.out; simp; omega) HI12.out)
            have n0 : w12.cell? ⟨N0, 0, none⟩ = some (.int .i64 (H : Int)) := HN12.out.1.2.1 0
            have n1 : w12.cell? ⟨N0, 1, none⟩ = some (.int .i64 (y : Int)) := HN12.out.1.2.1 1
            have hwl : IntKind.i64.wrap ((d : Int) + 1 - 1) = (d : Int) := by rw [IntWalk.i64_in _ (by omega)]; omega
            have hwl2 : IntKind.i64.wrap (d : Int) = (d : Int) := IntWalk.i64_in _ (by omega)
            generalize wS H m d y (seen ++ [y]) (th ++ [(t : Int)]) (ps'.map (·.2), false) = R9 at *
            clear HI12
            go_wp2_with fail
            refine HRec.out.mono ?_
            rintro e w13 ⟨rfl, sv3, tv3, ov3, full3, ps3, hI3, hR3, hK3⟩
            have HX13 := Lib.hid (HX12.out.keep hK3)
            have HL13 := Lib.hid (HL12.out.keep hK3)
            have HK13 := Lib.hid (HK12.out.trans hK3)
            have HR3 := Lib.hid hR3
            have hl3 : (stM H (seen ++ [y])).length = sn + 1 := by rw [stM_len, List.length_append, HSn.out]; rfl
            obtain ⟨sa3, sn3, sc3, rfl⟩ := hI3.ss
            have hsn3 : sn3 = sn + 1 := by rw [← hl3]; exact sts_len hI3.sts
            subst hsn3
            obtain ⟨sg3, rfl, -, -⟩ := sts_head hI3.sts (by omega)
            obtain ⟨ta3, tn3, tc3, rfl⟩ := hI3.tl
            have htn3 : tn3 = tn + 1 := by
              obtain ⟨_, _, e⟩ := slice_of_own hI3.thr
              injection e with _ e2 _
              rw [e2, HTn.out]; simp
            subst htn3
            obtain ⟨tg3, rfl⟩ : ∃ g, ta3 = some ⟨g, 0, none⟩ := by
              obtain ⟨g, cap, e, _, _⟩ := hI3.thr.form (by simp)
              injection e with e1
              exact ⟨g, e1⟩
            have hcapt : tn ≤ tc3 := by
              rcases hI3.thr.2 with ⟨e, _⟩ | ⟨g, cap, cur, e, _, _, hnc, _⟩
              · cases e
              · injection e with _ _ e3; subst e3; rw [HTn.out]; simp at hnc; omega
            have hcaps : sn ≤ sc3 := by
              rcases hI3.sts.2 with ⟨e, _⟩ | ⟨g, cap, cur, e, _, _, hnc, _⟩
              · cases e
              · injection e with _ _ e3; subst e3; rw [hl3] at hnc; omega
            have HI13 := Lib.hid hI3
            clear hI3 hR3 hK3 HX12 HL12 HN12 HK12 HRec n0 n1 hl3
            have hwt : IntKind.i64.wrap (tn : Int) = (tn : Int) := IntWalk.i64_in _ (by have := Hth.out; have h2 := HTn.out; omega)
            have hws : IntKind.i64.wrap (sn : Int) = (sn : Int) := IntWalk.i64_in _ (by have := Hsl.out; have h2 := HSn.out; omega)
            have hit0 : (0 : Int) ≤ (tn : Int) := by omega
            have hit1 : (tn : Int) ≤ (tc3 : Int) := by omega
            have his0 : (0 : Int) ≤ (sn : Int) := by omega
            have his1 : (sn : Int) ≤ (sc3 : Int) := by omega
            have hbd : Below w13.heap.size w13 w13.drew := (Below.refl _ _).drew
            go_wp2
            refine wp_region_dep (S := fun L w' => Till 14 (fun w' => BoxIs w' B [.int .i64 H, .int .i64 H, .int .i64 m, .slice (some ⟨sg3, 0, none⟩) (sn + 1) sc3, .slice (some ⟨tg3, 0, none⟩) (tn + 1) tc3, ov3, .bool full3]) L w') (by kernel_rfl) (by exact (fun _ => HI13.out.box.below hbd)) (fun hHeld => ?_)
            refine wpAnyD_take (i := 0) (oi := ⟨_, _, _, _, _, _⟩) (v := ?_) rfl (by kernel_rfl) (by kernel_rfl) (by kernel_rfl) (fun _ _ _ h => h) (by intro L w'; (try dsimp only); repeat (first | exact Iff.rfl | exact Till.ins (by decide) _ _ _ | refine and_congr ?_ ?_)) [] (by kernel_rfl) (by kernel_rfl) (Or.inl ⟨by rfl, ?_⟩) (by assumption) (fun hHeld' => ?_); rotate_left; (focus (intro w _; go_simp; try with_reducible rfl)); clear hHeld; have hHeld := hHeld'; clear hHeld'; (try simp only [Act.put, List.setIfInBounds_toArray, List.set_cons_zero, List.set_cons_succ])
            refine wpAnyD_take (i := 1) (oi := ⟨_, _, _, _, _, _⟩) (v := ?_) rfl (by kernel_rfl) (by kernel_rfl) (by kernel_rfl) (fun _ _ _ h => h) (by intro L w'; (try dsimp only); repeat (first | exact Iff.rfl | exact Till.ins (by decide) _ _ _ | refine and_congr ?_ ?_)) [] (by kernel_rfl) (by kernel_rfl) (Or.inl ⟨by rfl, ?_⟩) (by assumption) (fun hHeld' => ?_); rotate_left; (focus (intro w _; go_simp; try with_reducible rfl)); clear hHeld; have hHeld := hHeld'; clear hHeld'; (try simp only [Act.put, List.setIfInBounds_toArray, List.set_cons_zero, List.set_cons_succ])
            refine wpAnyD_take (i := 2) (oi := ⟨_, _, _, _, _, _⟩) (v := ?_) rfl (by kernel_rfl) (by kernel_rfl) (by kernel_rfl) (fun _ _ _ h => h) (by intro L w'; (try dsimp only); repeat (first | exact Iff.rfl | exact Till.ins (by decide) _ _ _ | refine and_congr ?_ ?_)) [] (by kernel_rfl) (by kernel_rfl) (Or.inl ⟨by rfl, ?_⟩) (by assumption) (fun hHeld' => ?_); rotate_left; (focus (intro w _; go_simp; try with_reducible rfl)); clear hHeld; have hHeld := hHeld'; clear hHeld'; (try simp only [Act.put, List.setIfInBounds_toArray, List.set_cons_zero, List.set_cons_succ])
            refine wpAnyD_take (i := 3) (oi := ⟨_, _, _, _, _, _⟩) (v := ?_) rfl (by kernel_rfl) (by kernel_rfl) (by kernel_rfl) (fun _ _ _ h => h) (by intro L w'; (try dsimp only); repeat (first | exact Iff.rfl | exact Till.ins (by decide) _ _ _ | refine and_congr ?_ ?_)) [] (by kernel_rfl) (by kernel_rfl) (Or.inl ⟨by rfl, ?_⟩) (by assumption) (fun hHeld' => ?_); rotate_left; (focus (intro w _; go_simp; try with_reducible rfl)); clear hHeld; have hHeld := hHeld'; clear hHeld'; (try simp only [Act.put, List.setIfInBounds_toArray, List.set_cons_zero, List.set_cons_succ])
            refine wpAnyD_take (i := 4) (oi := ⟨_, _, _, _, _, _⟩) (v := ?_) rfl (by kernel_rfl) (by kernel_rfl) (by kernel_rfl) (fun _ _ _ h => h) (by intro L w'; (try dsimp only); repeat (first | exact Iff.rfl | exact Till.ins (by decide) _ _ _ | refine and_congr ?_ ?_)) [11, 12, 13, 14] (by kernel_rfl) (by kernel_rfl) (Or.inl ⟨by rfl, ?_⟩) (by assumption) (fun hHeld' => ?_); rotate_left; (focus (intro w hSw0; obtain ⟨L, ho, hSw⟩ := hSw0; (try dsimp only at hSw); have HH := Till.of hSw ho rfl; have t4 : w.cell? ⟨B, 4, none⟩ = some (.slice (some ⟨tg3, 0, none⟩) (tn + 1) tc3) := HH.2.1 4; clear HH; clear ho hSw; go_simp; try with_reducible rfl)); clear hHeld; have hHeld := hHeld'; clear hHeld'; (try simp only [Act.put, List.setIfInBounds_toArray, List.set_cons_zero, List.set_cons_succ])
            refine wpAnyD_take (i := 5) (oi := ⟨_, _, _, _, _, _⟩) (v := ?_) rfl (by kernel_rfl) (by kernel_rfl) (by kernel_rfl) (fun _ _ _ h => h) (by intro L w'; (try dsimp only); repeat (first | exact Iff.rfl | exact Till.ins (by decide) _ _ _ | refine and_congr ?_ ?_)) [] (by kernel_rfl) (by kernel_rfl) (Or.inl ⟨by rfl, ?_⟩) (by assumption) (fun hHeld' => ?_); rotate_left; (focus (intro w _; go_simp; try with_reducible rfl)); clear hHeld; have hHeld := hHeld'; clear hHeld'; (try simp only [Act.put, List.setIfInBounds_toArray, List.set_cons_zero, List.set_cons_succ])
            refine wpAnyD_take (i := 6) (oi := ⟨_, _, _, _, _, _⟩) (v := ?_) rfl (by kernel_rfl) (by kernel_rfl) (by kernel_rfl) (fun _ _ _ h => h) (by intro L w'; (try dsimp only); repeat (first | exact Iff.rfl | exact Till.ins (by decide) _ _ _ | refine and_congr ?_ ?_)) [] (by kernel_rfl) (by kernel_rfl) (Or.inl ⟨by rfl, ?_⟩) (by assumption) (fun hHeld' => ?_); rotate_left; (focus (intro w _; go_simp; try with_reducible rfl)); clear hHeld; have hHeld := hHeld'; clear hHeld'; (try simp only [Act.put, List.setIfInBounds_toArray, List.set_cons_zero, List.set_cons_succ])
            refine wpAnyD_take (i := 7) (oi := ⟨_, _, _, _, _, _⟩) (v := ?_) rfl (by kernel_rfl) (by kernel_rfl) (by kernel_rfl) (fun _ _ _ h => h) (by intro L w'; (try dsimp only); repeat (first | exact Iff.rfl | exact Till.ins (by decide) _ _ _ | refine and_congr ?_ ?_)) [] (by kernel_rfl) (by kernel_rfl) (Or.inl ⟨by rfl, ?_⟩) (by assumption) (fun hHeld' => ?_); rotate_left; (focus (intro w _; go_simp; try with_reducible rfl)); clear hHeld; have hHeld := hHeld'; clear hHeld'; (try simp only [Act.put, List.setIfInBounds_toArray, List.set_cons_zero, List.set_cons_succ])
            refine wpAnyD_take (i := 8) (oi := ⟨_, _, _, _, _, _⟩) (v := ?_) rfl (by kernel_rfl) (by kernel_rfl) (by kernel_rfl) (fun _ _ _ h => h) (by intro L w'; (try dsimp only); repeat (first | exact Iff.rfl | exact Till.ins (by decide) _ _ _ | refine and_congr ?_ ?_)) [9, 12, 13, 14] (by kernel_rfl) (by kernel_rfl) (Or.inl ⟨by rfl, ?_⟩) (by assumption) (fun hHeld' => ?_); rotate_left; (focus (intro w hSw0; obtain ⟨L, ho, hSw⟩ := hSw0; (try dsimp only at hSw); have HH := Till.of hSw ho rfl; have t4 : w.cell? ⟨B, 4, none⟩ = some (.slice (some ⟨tg3, 0, none⟩) (tn + 1) tc3) := HH.2.1 4; clear HH; clear ho hSw; go_simp; try with_reducible rfl)); clear hHeld; have hHeld := hHeld'; clear hHeld'; (try simp only [Act.put, List.setIfInBounds_toArray, List.set_cons_zero, List.set_cons_succ])
            refine wpAnyD_take (i := 9) (oi := ⟨_, _, _, _, _, _⟩) (v := ?_) rfl (by kernel_rfl) (by kernel_rfl) (by kernel_rfl) (fun _ _ _ h => h) (by intro L w'; (try dsimp only); repeat (first | exact Iff.rfl | exact Till.ins (by decide) _ _ _ | refine and_congr ?_ ?_)) [] (by kernel_rfl) (by kernel_rfl) (Or.inl ⟨by rfl, ?_⟩) (by assumption) (fun hHeld' => ?_); rotate_left; (focus (intro w _; go_simp; try with_reducible rfl)); clear hHeld; have hHeld := hHeld'; clear hHeld'; (try simp only [Act.put, List.setIfInBounds_toArray, List.set_cons_zero, List.set_cons_succ])
            refine wpAnyD_take (i := 10) (oi := ⟨_, _, _, _, _, _⟩) (v := ?_) rfl (by kernel_rfl) (by kernel_rfl) (by kernel_rfl) (fun _ _ _ h => h) (by intro L w'; (try dsimp only); repeat (first | exact Iff.rfl | exact Till.ins (by decide) _ _ _ | refine and_congr ?_ ?_)) [] (by kernel_rfl) (by kernel_rfl) (Or.inl ⟨by rfl, ?_⟩) (by assumption) (fun hHeld' => ?_); rotate_left; (focus (intro w _; go_simp; try with_reducible rfl)); clear hHeld; have hHeld := hHeld'; clear hHeld'; (try simp only [Act.put, List.setIfInBounds_toArray, List.set_cons_zero, List.set_cons_succ])
            refine wpAnyD_take (i := 11) (oi := ⟨_, _, _, _, _, _⟩) (v := ?_) rfl (by kernel_rfl) (by kernel_rfl) (by kernel_rfl) (fun _ _ _ h => h) (by intro L w'; (try dsimp only); repeat (first | exact Iff.rfl | exact Till.ins (by decide) _ _ _ | refine and_congr ?_ ?_)) [] (by kernel_rfl) (by kernel_rfl) (Or.inl ⟨by rfl, ?_⟩) (by assumption) (fun hHeld' => ?_); rotate_left; (focus (intro w _; go_simp; try with_reducible rfl)); clear hHeld; have hHeld := hHeld'; clear hHeld'; (try simp only [Act.put, List.setIfInBounds_toArray, List.set_cons_zero, List.set_cons_succ])
            refine wpAnyD_take (i := 12) (oi := ⟨_, _, _, _, _, _⟩) (v := ?_) rfl (by kernel_rfl) (by kernel_rfl) (by kernel_rfl) (fun _ _ _ h => h) (by intro L w'; (try dsimp only); repeat (first | exact Iff.rfl | exact Till.ins (by decide) _ _ _ | refine and_congr ?_ ?_)) [] (by kernel_rfl) (by kernel_rfl) (Or.inl ⟨by rfl, ?_⟩) (by assumption) (fun hHeld' => ?_); rotate_left; (focus (intro w _; go_simp; try with_reducible rfl)); clear hHeld; have hHeld := hHeld'; clear hHeld'; (try simp only [Act.put, List.setIfInBounds_toArray, List.set_cons_zero, List.set_cons_succ])
            refine wpAnyD_take (i := 13) (oi := ⟨_, _, _, _, _, _⟩) (v := ?_) rfl (by kernel_rfl) (by kernel_rfl) (by kernel_rfl) (fun _ _ _ h => h) (by intro L w'; (try dsimp only); repeat (first | exact Iff.rfl | exact Till.ins (by decide) _ _ _ | refine and_congr ?_ ?_)) [] (by kernel_rfl) (by kernel_rfl) (Or.inl ⟨by rfl, ?_⟩) (by assumption) (fun hHeld' => ?_); rotate_left; (focus (intro w _; go_simp; try with_reducible rfl)); clear hHeld; have hHeld := hHeld'; clear hHeld'; (try simp only [Act.put, List.setIfInBounds_toArray, List.set_cons_zero, List.set_cons_succ])
            refine wpAnyD_ready (rs := [14]) (by kernel_rfl) (by simp) ?_
            refine AllReadyD.cons (o := ⟨_, _, _, _, _, _⟩) rfl (fun K hK => ?_) AllReadyD.nil
            have g3 : w13.drew.cell? ⟨B, 4, none⟩ = some (.slice (some ⟨tg3, 0, none⟩) (tn + 1) tc3) := (hHeld rfl).2.1 4; have gf3 : w13.drew.frozen? ⟨B, 4, none⟩ = false := (hHeld rfl).2.2 4
            go_simp
            refine hK.out _ _ (by exact (fun h => absurd h (by decide))) (fun hHeld' => ?_)
            clear hHeld hK K
            have hHeld := hHeld'
            clear hHeld'
            try simp only [Act.put, List.setIfInBounds_toArray, List.set_cons_zero, List.set_cons_succ]
            refine wpAnyD_done (by kernel_rfl) ?_ _
            have HI14 : Hid (WInv ((w13.setCell ⟨B, 4, none⟩ (.slice (some ⟨tg3, 0, none⟩) tn tc3)).drew) KB B H m (.slice (some ⟨sg3, 0, none⟩) (sn + 1) sc3) (.slice (some ⟨tg3, 0, none⟩) tn tc3) ov3 full3 (seen ++ [y]) th ps3) := Lib.hid (by
              have h := (WInv.popT HI13.out tn (by rw [HTn.out]; simp)).below (Below.drew (Below.refl _ _))
              rw [List.take_left' HTn.out.symm] at h
              exact h)
            have HKs : Hid (WKeep B (.slice (some ⟨sg3, 0, none⟩) (sn + 1) sc3) (.slice (some ⟨tg3, 0, none⟩) (tn + 1) tc3) (.slice (some ⟨sg3, 0, none⟩) (sn + 1) sc3) (.slice (some ⟨tg3, 0, none⟩) tn tc3) w13 ((w13.setCell ⟨B, 4, none⟩ (.slice (some ⟨tg3, 0, none⟩) tn tc3)).drew)) := Lib.hid ((WKeep.pop (sv := .slice (some ⟨sg3, 0, none⟩) (sn + 1) sc3) (tv := .slice (some ⟨tg3, 0, none⟩) (tn + 1) tc3) (sv' := .slice (some ⟨sg3, 0, none⟩) (sn + 1) sc3) (tv' := .slice (some ⟨tg3, 0, none⟩) tn tc3) (fun _ h => h) (fun _ h => h) 4 (.slice (some ⟨tg3, 0, none⟩) tn tc3)).trans (WKeep.of_below (w := w13.setCell ⟨B, 4, none⟩ (.slice (some ⟨tg3, 0, none⟩) tn tc3)) (Below.drew (Below.refl _ _))))
            have HX14 := Lib.hid (HX13.out.keep HKs.out)
            have HL14 := Lib.hid (HL13.out.keep HKs.out)
            have HK14 := Lib.hid (HK13.out.trans HKs.out)
            have hwD : ((w13.drew.setCell ⟨B, 4, none⟩ (.slice (some ⟨tg3, 0, none⟩) tn tc3))) = ((w13.setCell ⟨B, 4, none⟩ (.slice (some ⟨tg3, 0, none⟩) tn tc3)).drew) := rfl
            try rw [hwD]
            clear HKs hHeld HI13 HX13 HL13 HK13 hbd hwD
            generalize ((w13.setCell ⟨B, 4, none⟩ (.slice (some ⟨tg3, 0, none⟩) tn tc3)).drew) = w14 at *
            have hbd : Below w14.heap.size w14 w14.drew := (Below.refl _ _).drew
            go_wp2
            refine wp_region_dep (S := fun L w' => Till 14 (fun w' => BoxIs w' B [.int .i64 H, .int .i64 H, .int .i64 m, .slice (some ⟨sg3, 0, none⟩) (sn + 1) sc3, .slice (some ⟨tg3, 0, none⟩) tn tc3, ov3, .bool full3]) L w') (by kernel_rfl) (by exact (fun _ => HI14.out.box.below hbd)) (fun hHeld => ?_)
            refine wpAnyD_take (i := 0) (oi := ⟨_, _, _, _, _, _⟩) (v := ?_) rfl (by kernel_rfl) (by kernel_rfl) (by kernel_rfl) (fun _ _ _ h => h) (by intro L w'; (try dsimp only); repeat (first | exact Iff.rfl | exact Till.ins (by decide) _ _ _ | refine and_congr ?_ ?_)) [] (by kernel_rfl) (by kernel_rfl) (Or.inl ⟨by rfl, ?_⟩) (by assumption) (fun hHeld' => ?_); rotate_left; (focus (intro w _; go_simp; try with_reducible rfl)); clear hHeld; have hHeld := hHeld'; clear hHeld'; (try simp only [Act.put, List.setIfInBounds_toArray, List.set_cons_zero, List.set_cons_succ])
            refine wpAnyD_take (i := 1) (oi := ⟨_, _, _, _, _, _⟩) (v := ?_) rfl (by kernel_rfl) (by kernel_rfl) (by kernel_rfl) (fun _ _ _ h => h) (by intro L w'; (try dsimp only); repeat (first | exact Iff.rfl | exact Till.ins (by decide) _ _ _ | refine and_congr ?_ ?_)) [] (by kernel_rfl) (by kernel_rfl) (Or.inl ⟨by rfl, ?_⟩) (by assumption) (fun hHeld' => ?_); rotate_left; (focus (intro w _; go_simp; try with_reducible rfl)); clear hHeld; have hHeld := hHeld'; clear hHeld'; (try simp only [Act.put, List.setIfInBounds_toArray, List.set_cons_zero, List.set_cons_succ])
            refine wpAnyD_take (i := 2) (oi := ⟨_, _, _, _, _, _⟩) (v := ?_) rfl (by kernel_rfl) (by kernel_rfl) (by kernel_rfl) (fun _ _ _ h => h) (by intro L w'; (try dsimp only); repeat (first | exact Iff.rfl | exact Till.ins (by decide) _ _ _ | refine and_congr ?_ ?_)) [] (by kernel_rfl) (by kernel_rfl) (Or.inl ⟨by rfl, ?_⟩) (by assumption) (fun hHeld' => ?_); rotate_left; (focus (intro w _; go_simp; try with_reducible rfl)); clear hHeld; have hHeld := hHeld'; clear hHeld'; (try simp only [Act.put, List.setIfInBounds_toArray, List.set_cons_zero, List.set_cons_succ])
            refine wpAnyD_take (i := 3) (oi := ⟨_, _, _, _, _, _⟩) (v := ?_) rfl (by kernel_rfl) (by kernel_rfl) (by kernel_rfl) (fun _ _ _ h => h) (by intro L w'; (try dsimp only); repeat (first | exact Iff.rfl | exact Till.ins (by decide) _ _ _ | refine and_congr ?_ ?_)) [] (by kernel_rfl) (by kernel_rfl) (Or.inl ⟨by rfl, ?_⟩) (by assumption) (fun hHeld' => ?_); rotate_left; (focus (intro w _; go_simp; try with_reducible rfl)); clear hHeld; have hHeld := hHeld'; clear hHeld'; (try simp only [Act.put, List.setIfInBounds_toArray, List.set_cons_zero, List.set_cons_succ])
            refine wpAnyD_take (i := 4) (oi := ⟨_, _, _, _, _, _⟩) (v := ?_) rfl (by kernel_rfl) (by kernel_rfl) (by kernel_rfl) (fun _ _ _ h => h) (by intro L w'; (try dsimp only); repeat (first | exact Iff.rfl | exact Till.ins (by decide) _ _ _ | refine and_congr ?_ ?_)) [11, 12, 13, 14] (by kernel_rfl) (by kernel_rfl) (Or.inl ⟨by rfl, ?_⟩) (by assumption) (fun hHeld' => ?_); rotate_left; (focus (intro w hSw0; obtain ⟨L, ho, hSw⟩ := hSw0; (try dsimp only at hSw); have HH := Till.of hSw ho rfl; have t4 : w.cell? ⟨B, 3, none⟩ = some (.slice (some ⟨sg3, 0, none⟩) (sn + 1) sc3) := HH.2.1 3; clear HH; clear ho hSw; go_simp; try with_reducible rfl)); clear hHeld; have hHeld := hHeld'; clear hHeld'; (try simp only [Act.put, List.setIfInBounds_toArray, List.set_cons_zero, List.set_cons_succ])
            refine wpAnyD_take (i := 5) (oi := ⟨_, _, _, _, _, _⟩) (v := ?_) rfl (by kernel_rfl) (by kernel_rfl) (by kernel_rfl) (fun _ _ _ h => h) (by intro L w'; (try dsimp only); repeat (first | exact Iff.rfl | exact Till.ins (by decide) _ _ _ | refine and_congr ?_ ?_)) [] (by kernel_rfl) (by kernel_rfl) (Or.inl ⟨by rfl, ?_⟩) (by assumption) (fun hHeld' => ?_); rotate_left; (focus (intro w _; go_simp; try with_reducible rfl)); clear hHeld; have hHeld := hHeld'; clear hHeld'; (try simp only [Act.put, List.setIfInBounds_toArray, List.set_cons_zero, List.set_cons_succ])
            refine wpAnyD_take (i := 6) (oi := ⟨_, _, _, _, _, _⟩) (v := ?_) rfl (by kernel_rfl) (by kernel_rfl) (by kernel_rfl) (fun _ _ _ h => h) (by intro L w'; (try dsimp only); repeat (first | exact Iff.rfl | exact Till.ins (by decide) _ _ _ | refine and_congr ?_ ?_)) [] (by kernel_rfl) (by kernel_rfl) (Or.inl ⟨by rfl, ?_⟩) (by assumption) (fun hHeld' => ?_); rotate_left; (focus (intro w _; go_simp; try with_reducible rfl)); clear hHeld; have hHeld := hHeld'; clear hHeld'; (try simp only [Act.put, List.setIfInBounds_toArray, List.set_cons_zero, List.set_cons_succ])
            refine wpAnyD_take (i := 7) (oi := ⟨_, _, _, _, _, _⟩) (v := ?_) rfl (by kernel_rfl) (by kernel_rfl) (by kernel_rfl) (fun _ _ _ h => h) (by intro L w'; (try dsimp only); repeat (first | exact Iff.rfl | exact Till.ins (by decide) _ _ _ | refine and_congr ?_ ?_)) [] (by kernel_rfl) (by kernel_rfl) (Or.inl ⟨by rfl, ?_⟩) (by assumption) (fun hHeld' => ?_); rotate_left; (focus (intro w _; go_simp; try with_reducible rfl)); clear hHeld; have hHeld := hHeld'; clear hHeld'; (try simp only [Act.put, List.setIfInBounds_toArray, List.set_cons_zero, List.set_cons_succ])
            refine wpAnyD_take (i := 8) (oi := ⟨_, _, _, _, _, _⟩) (v := ?_) rfl (by kernel_rfl) (by kernel_rfl) (by kernel_rfl) (fun _ _ _ h => h) (by intro L w'; (try dsimp only); repeat (first | exact Iff.rfl | exact Till.ins (by decide) _ _ _ | refine and_congr ?_ ?_)) [9, 12, 13, 14] (by kernel_rfl) (by kernel_rfl) (Or.inl ⟨by rfl, ?_⟩) (by assumption) (fun hHeld' => ?_); rotate_left; (focus (intro w hSw0; obtain ⟨L, ho, hSw⟩ := hSw0; (try dsimp only at hSw); have HH := Till.of hSw ho rfl; have t4 : w.cell? ⟨B, 3, none⟩ = some (.slice (some ⟨sg3, 0, none⟩) (sn + 1) sc3) := HH.2.1 3; clear HH; clear ho hSw; go_simp; try with_reducible rfl)); clear hHeld; have hHeld := hHeld'; clear hHeld'; (try simp only [Act.put, List.setIfInBounds_toArray, List.set_cons_zero, List.set_cons_succ])
            refine wpAnyD_take (i := 9) (oi := ⟨_, _, _, _, _, _⟩) (v := ?_) rfl (by kernel_rfl) (by kernel_rfl) (by kernel_rfl) (fun _ _ _ h => h) (by intro L w'; (try dsimp only); repeat (first | exact Iff.rfl | exact Till.ins (by decide) _ _ _ | refine and_congr ?_ ?_)) [] (by kernel_rfl) (by kernel_rfl) (Or.inl ⟨by rfl, ?_⟩) (by assumption) (fun hHeld' => ?_); rotate_left; (focus (intro w _; go_simp; try with_reducible rfl)); clear hHeld; have hHeld := hHeld'; clear hHeld'; (try simp only [Act.put, List.setIfInBounds_toArray, List.set_cons_zero, List.set_cons_succ])
            refine wpAnyD_take (i := 10) (oi := ⟨_, _, _, _, _, _⟩) (v := ?_) rfl (by kernel_rfl) (by kernel_rfl) (by kernel_rfl) (fun _ _ _ h => h) (by intro L w'; (try dsimp only); repeat (first | exact Iff.rfl | exact Till.ins (by decide) _ _ _ | refine and_congr ?_ ?_)) [] (by kernel_rfl) (by kernel_rfl) (Or.inl ⟨by rfl, ?_⟩) (by assumption) (fun hHeld' => ?_); rotate_left; (focus (intro w _; go_simp; try with_reducible rfl)); clear hHeld; have hHeld := hHeld'; clear hHeld'; (try simp only [Act.put, List.setIfInBounds_toArray, List.set_cons_zero, List.set_cons_succ])
            refine wpAnyD_take (i := 11) (oi := ⟨_, _, _, _, _, _⟩) (v := ?_) rfl (by kernel_rfl) (by kernel_rfl) (by kernel_rfl) (fun _ _ _ h => h) (by intro L w'; (try dsimp only); repeat (first | exact Iff.rfl | exact Till.ins (by decide) _ _ _ | refine and_congr ?_ ?_)) [] (by kernel_rfl) (by kernel_rfl) (Or.inl ⟨by rfl, ?_⟩) (by assumption) (fun hHeld' => ?_); rotate_left; (focus (intro w _; go_simp; try with_reducible rfl)); clear hHeld; have hHeld := hHeld'; clear hHeld'; (try simp only [Act.put, List.setIfInBounds_toArray, List.set_cons_zero, List.set_cons_succ])
            refine wpAnyD_take (i := 12) (oi := ⟨_, _, _, _, _, _⟩) (v := ?_) rfl (by kernel_rfl) (by kernel_rfl) (by kernel_rfl) (fun _ _ _ h => h) (by intro L w'; (try dsimp only); repeat (first | exact Iff.rfl | exact Till.ins (by decide) _ _ _ | refine and_congr ?_ ?_)) [] (by kernel_rfl) (by kernel_rfl) (Or.inl ⟨by rfl, ?_⟩) (by assumption) (fun hHeld' => ?_); rotate_left; (focus (intro w _; go_simp; try with_reducible rfl)); clear hHeld; have hHeld := hHeld'; clear hHeld'; (try simp only [Act.put, List.setIfInBounds_toArray, List.set_cons_zero, List.set_cons_succ])
            refine wpAnyD_take (i := 13) (oi := ⟨_, _, _, _, _, _⟩) (v := ?_) rfl (by kernel_rfl) (by kernel_rfl) (by kernel_rfl) (fun _ _ _ h => h) (by intro L w'; (try dsimp only); repeat (first | exact Iff.rfl | exact Till.ins (by decide) _ _ _ | refine and_congr ?_ ?_)) [] (by kernel_rfl) (by kernel_rfl) (Or.inl ⟨by rfl, ?_⟩) (by assumption) (fun hHeld' => ?_); rotate_left; (focus (intro w _; go_simp; try with_reducible rfl)); clear hHeld; have hHeld := hHeld'; clear hHeld'; (try simp only [Act.put, List.setIfInBounds_toArray, List.set_cons_zero, List.set_cons_succ])
            refine wpAnyD_ready (rs := [14]) (by kernel_rfl) (by simp) ?_
            refine AllReadyD.cons (o := ⟨_, _, _, _, _, _⟩) rfl (fun K hK => ?_) AllReadyD.nil
            have g3 : w14.drew.cell? ⟨B, 3, none⟩ = some (.slice (some ⟨sg3, 0, none⟩) (sn + 1) sc3) := (hHeld rfl).2.1 3; have gf3 : w14.drew.frozen? ⟨B, 3, none⟩ = false := (hHeld rfl).2.2 3
            go_simp
            refine hK.out _ _ (by exact (fun h => absurd h (by decide))) (fun hHeld' => ?_)
            clear hHeld hK K
            have hHeld := hHeld'
            clear hHeld'
            try simp only [Act.put, List.setIfInBounds_toArray, List.set_cons_zero, List.set_cons_succ]
            refine wpAnyD_done (by kernel_rfl) ?_ _
            have HI15 : Hid (WInv ((w14.setCell ⟨B, 3, none⟩ (.slice (some ⟨sg3, 0, none⟩) sn sc3)).drew) KB B H m (.slice (some ⟨sg3, 0, none⟩) sn sc3) (.slice (some ⟨tg3, 0, none⟩) tn tc3) ov3 full3 seen th ps3) := Lib.hid (by
              have h := (WInv.popS HI14.out sn (by rw [HSn.out]; simp)).below (Below.drew (Below.refl _ _))
              rw [List.take_left' HSn.out.symm] at h
              exact h)
            have HKs : Hid (WKeep B (.slice (some ⟨sg3, 0, none⟩) (sn + 1) sc3) (.slice (some ⟨tg3, 0, none⟩) tn tc3) (.slice (some ⟨sg3, 0, none⟩) sn sc3) (.slice (some ⟨tg3, 0, none⟩) tn tc3) w14 ((w14.setCell ⟨B, 3, none⟩ (.slice (some ⟨sg3, 0, none⟩) sn sc3)).drew)) := Lib.hid ((WKeep.pop (sv := .slice (some ⟨sg3, 0, none⟩) (sn + 1) sc3) (tv := .slice (some ⟨tg3, 0, none⟩) tn tc3) (sv' := .slice (some ⟨sg3, 0, none⟩) sn sc3) (tv' := .slice (some ⟨tg3, 0, none⟩) tn tc3) (fun _ h => h) (fun _ h => h) 3 (.slice (some ⟨sg3, 0, none⟩) sn sc3)).trans (WKeep.of_below (w := w14.setCell ⟨B, 3, none⟩ (.slice (some ⟨sg3, 0, none⟩) sn sc3)) (Below.drew (Below.refl _ _))))
            have HX15 := Lib.hid (HX14.out.keep HKs.out)
            have HL15 := Lib.hid (HL14.out.keep HKs.out)
            have HK15 := Lib.hid (HK14.out.trans HKs.out)
            have hwD : ((w14.drew.setCell ⟨B, 3, none⟩ (.slice (some ⟨sg3, 0, none⟩) sn sc3))) = ((w14.setCell ⟨B, 3, none⟩ (.slice (some ⟨sg3, 0, none⟩) sn sc3)).drew) := rfl
            try rw [hwD]
            have HR15 : Hid (RR = ((throwsM H x).drop (i + 1)).foldl (wF H m d x seen th) (ps3.map (·.2), full3)) := Lib.hid (by rw [HS.out, HSk.out, HR3.out])
            clear HKs hHeld HI14 HX14 HL14 HK14 hbd hwD HS HSk HR3
            generalize ((w14.setCell ⟨B, 3, none⟩ (.slice (some ⟨sg3, 0, none⟩) sn sc3)).drew) = w15 at *
            go_wp2
            exact ⟨⟨i + 1, _, _, _, _, ps3, by go_num, hlt, HI15, HR15, HX15, HL15, HK15⟩, by simp [intOf]; omega⟩
          · have hdI : (1 : Int) < (d : Int) + 1 := by omega
            have hdd : decide ((1 : Int) < (d : Int) + 1) = true := decide_eq_true hdI
            have hdd2 : decide (1 < d + 1) = true := decide_eq_true (by omega)
            have hdd3 : decide (0 < d) = true := decide_eq_true (by omega)
            by_cases hym : y < m
            · have HSkip : Hid (skipM m d x t seen = true) := Lib.hid (by unfold skipM; rw [HNy.out, decide_eq_true (show 0 < d by omega), decide_eq_true hym]; rfl)
              have hyd : decide (y < m) = true := decide_eq_true hym
              have hydI : decide ((y : Int) < (m : Int)) = true := decide_eq_true (by omega)
              go_wp2
              refine wp_region_held_drew (S := fun w' => Below w9.heap.size w9 w') (by kernel_rfl) (by exact ((Below.refl w9.heap.size w9)).drew) (fun hHeld => ?_)
              refine wpAnyH_take (i := 0) (oi := ⟨_, _, _, _, _, _⟩) (v := ?_) rfl (by kernel_rfl) (by kernel_rfl) (by kernel_rfl) (fun _ _ _ h => h) (Or.inl ⟨by rfl, ?_⟩) (by assumption) ?_; rotate_left; (focus (intro w hSw; (try dsimp only at hSw); go_simp; try with_reducible rfl)); (try simp only [Act.put, List.setIfInBounds_toArray, List.set_cons_zero, List.set_cons_succ])
              refine wpAnyH_take (i := 1) (oi := ⟨_, _, _, _, _, _⟩) (v := ?_) rfl (by kernel_rfl) (by kernel_rfl) (by kernel_rfl) (fun _ _ _ h => h) (Or.inl ⟨by rfl, ?_⟩) (by assumption) ?_; rotate_left; (focus (intro w hSw; (try dsimp only at hSw); go_simp; try with_reducible rfl)); (try simp only [Act.put, List.setIfInBounds_toArray, List.set_cons_zero, List.set_cons_succ])
              refine wpAnyH_take (i := 2) (oi := ⟨_, _, _, _, _, _⟩) (v := ?_) rfl (by kernel_rfl) (by kernel_rfl) (by kernel_rfl) (fun _ _ _ h => h) (Or.inl ⟨by rfl, ?_⟩) (by assumption) ?_; rotate_left; (focus (intro w hSw; (try dsimp only at hSw); go_simp; try with_reducible rfl)); (try simp only [Act.put, List.setIfInBounds_toArray, List.set_cons_zero, List.set_cons_succ])
              first | (refine wpAnyH_take (i := 3) (oi := ⟨_, _, _, _, _, _⟩) rfl (by kernel_rfl) (by kernel_rfl) (by kernel_rfl) (fun _ _ _ h => h) (Or.inr ⟨by rfl, rfl⟩) (by assumption) ?_; (try simp only [Act.put, List.setIfInBounds_toArray, List.set_cons_zero, List.set_cons_succ])) | (refine wpAnyH_take (i := 3) (oi := ⟨_, _, _, _, _, _⟩) (v := ?_) rfl (by kernel_rfl) (by kernel_rfl) (by kernel_rfl) (fun _ _ _ h => h) (Or.inl ⟨by rfl, ?_⟩) (by assumption) ?_; rotate_left; (focus (intro w hSw; (try dsimp only at hSw); go_simp; try with_reducible rfl)); (try simp only [Act.put, List.setIfInBounds_toArray, List.set_cons_zero, List.set_cons_succ]))
              first | (refine wpAnyH_take (i := 4) (oi := ⟨_, _, _, _, _, _⟩) rfl (by kernel_rfl) (by kernel_rfl) (by kernel_rfl) (fun _ _ _ h => h) (Or.inr ⟨by rfl, rfl⟩) (by assumption) ?_; (try simp only [Act.put, List.setIfInBounds_toArray, List.set_cons_zero, List.set_cons_succ])) | (refine wpAnyH_take (i := 4) (oi := ⟨_, _, _, _, _, _⟩) (v := ?_) rfl (by kernel_rfl) (by kernel_rfl) (by kernel_rfl) (fun _ _ _ h => h) (Or.inl ⟨by rfl, ?_⟩) (by assumption) ?_; rotate_left; (focus (intro w hSw; (try dsimp only at hSw); have t0 := cell_then hNl n0 hSw; have t1 := cell_then hNl n1 hSw; have t2 := cell_then hBl b2 hSw; go_simp; try with_reducible rfl)); (try simp only [Act.put, List.setIfInBounds_toArray, List.set_cons_zero, List.set_cons_succ]))
              first | (refine wpAnyH_take (i := 5) (oi := ⟨_, _, _, _, _, _⟩) rfl (by kernel_rfl) (by kernel_rfl) (by kernel_rfl) (fun _ _ _ h => h) (Or.inr ⟨by rfl, rfl⟩) (by assumption) ?_; (try simp only [Act.put, List.setIfInBounds_toArray, List.set_cons_zero, List.set_cons_succ])) | (refine wpAnyH_take (i := 5) (oi := ⟨_, _, _, _, _, _⟩) (v := ?_) rfl (by kernel_rfl) (by kernel_rfl) (by kernel_rfl) (fun _ _ _ h => h) (Or.inl ⟨by rfl, ?_⟩) (by assumption) ?_; rotate_left; (focus (intro w hSw; (try dsimp only at hSw); go_simp; try with_reducible rfl)); (try simp only [Act.put, List.setIfInBounds_toArray, List.set_cons_zero, List.set_cons_succ]))
              first | (refine wpAnyH_take (i := 6) (oi := ⟨_, _, _, _, _, _⟩) rfl (by kernel_rfl) (by kernel_rfl) (by kernel_rfl) (fun _ _ _ h => h) (Or.inr ⟨by rfl, rfl⟩) (by assumption) ?_; (try simp only [Act.put, List.setIfInBounds_toArray, List.set_cons_zero, List.set_cons_succ])) | (refine wpAnyH_take (i := 6) (oi := ⟨_, _, _, _, _, _⟩) (v := ?_) rfl (by kernel_rfl) (by kernel_rfl) (by kernel_rfl) (fun _ _ _ h => h) (Or.inl ⟨by rfl, ?_⟩) (by assumption) ?_; rotate_left; (focus (intro w hSw; (try dsimp only at hSw); go_simp; try with_reducible rfl)); (try simp only [Act.put, List.setIfInBounds_toArray, List.set_cons_zero, List.set_cons_succ]))
              first | (refine wpAnyH_take (i := 7) (oi := ⟨_, _, _, _, _, _⟩) rfl (by kernel_rfl) (by kernel_rfl) (by kernel_rfl) (fun _ _ _ h => h) (Or.inr ⟨by rfl, rfl⟩) (by assumption) ?_; (try simp only [Act.put, List.setIfInBounds_toArray, List.set_cons_zero, List.set_cons_succ])) | (refine wpAnyH_take (i := 7) (oi := ⟨_, _, _, _, _, _⟩) (v := ?_) rfl (by kernel_rfl) (by kernel_rfl) (by kernel_rfl) (fun _ _ _ h => h) (Or.inl ⟨by rfl, ?_⟩) (by assumption) ?_; rotate_left; (focus (intro w hSw; (try dsimp only at hSw); go_simp; try with_reducible rfl)); (try simp only [Act.put, List.setIfInBounds_toArray, List.set_cons_zero, List.set_cons_succ]))
              first | (refine wpAnyH_take (i := 8) (oi := ⟨_, _, _, _, _, _⟩) rfl (by kernel_rfl) (by kernel_rfl) (by kernel_rfl) (fun _ _ _ h => h) (Or.inr ⟨by rfl, rfl⟩) (by assumption) ?_; (try simp only [Act.put, List.setIfInBounds_toArray, List.set_cons_zero, List.set_cons_succ])) | (refine wpAnyH_take (i := 8) (oi := ⟨_, _, _, _, _, _⟩) (v := ?_) rfl (by kernel_rfl) (by kernel_rfl) (by kernel_rfl) (fun _ _ _ h => h) (Or.inl ⟨by rfl, ?_⟩) (by assumption) ?_; rotate_left; (focus (intro w hSw; (try dsimp only at hSw); go_simp; try with_reducible rfl)); (try simp only [Act.put, List.setIfInBounds_toArray, List.set_cons_zero, List.set_cons_succ]))
              first | (refine wpAnyH_take (i := 9) (oi := ⟨_, _, _, _, _, _⟩) rfl (by kernel_rfl) (by kernel_rfl) (by kernel_rfl) (fun _ _ _ h => h) (Or.inr ⟨by rfl, rfl⟩) (by assumption) ?_; (try simp only [Act.put, List.setIfInBounds_toArray, List.set_cons_zero, List.set_cons_succ])) | (refine wpAnyH_take (i := 9) (oi := ⟨_, _, _, _, _, _⟩) (v := ?_) rfl (by kernel_rfl) (by kernel_rfl) (by kernel_rfl) (fun _ _ _ h => h) (Or.inl ⟨by rfl, ?_⟩) (by assumption) ?_; rotate_left; (focus (intro w hSw; (try dsimp only at hSw); have t0 := cell_then hNl n0 hSw; have t1 := cell_then hNl n1 hSw; have t2 := cell_then hBl b2 hSw; go_simp; try with_reducible rfl)); (try simp only [Act.put, List.setIfInBounds_toArray, List.set_cons_zero, List.set_cons_succ]))
              first | (refine wpAnyH_take (i := 10) (oi := ⟨_, _, _, _, _, _⟩) rfl (by kernel_rfl) (by kernel_rfl) (by kernel_rfl) (fun _ _ _ h => h) (Or.inr ⟨by rfl, rfl⟩) (by assumption) ?_; (try simp only [Act.put, List.setIfInBounds_toArray, List.set_cons_zero, List.set_cons_succ])) | (refine wpAnyH_take (i := 10) (oi := ⟨_, _, _, _, _, _⟩) (v := ?_) rfl (by kernel_rfl) (by kernel_rfl) (by kernel_rfl) (fun _ _ _ h => h) (Or.inl ⟨by rfl, ?_⟩) (by assumption) ?_; rotate_left; (focus (intro w hSw; (try dsimp only at hSw); go_simp; try with_reducible rfl)); (try simp only [Act.put, List.setIfInBounds_toArray, List.set_cons_zero, List.set_cons_succ]))
              first | (refine wpAnyH_take (i := 11) (oi := ⟨_, _, _, _, _, _⟩) rfl (by kernel_rfl) (by kernel_rfl) (by kernel_rfl) (fun _ _ _ h => h) (Or.inr ⟨by rfl, rfl⟩) (by assumption) ?_; (try simp only [Act.put, List.setIfInBounds_toArray, List.set_cons_zero, List.set_cons_succ])) | (refine wpAnyH_take (i := 11) (oi := ⟨_, _, _, _, _, _⟩) (v := ?_) rfl (by kernel_rfl) (by kernel_rfl) (by kernel_rfl) (fun _ _ _ h => h) (Or.inl ⟨by rfl, ?_⟩) (by assumption) ?_; rotate_left; (focus (intro w hSw; (try dsimp only at hSw); go_simp; try with_reducible rfl)); (try simp only [Act.put, List.setIfInBounds_toArray, List.set_cons_zero, List.set_cons_succ]))
              first | (refine wpAnyH_take (i := 12) (oi := ⟨_, _, _, _, _, _⟩) rfl (by kernel_rfl) (by kernel_rfl) (by kernel_rfl) (fun _ _ _ h => h) (Or.inr ⟨by rfl, rfl⟩) (by assumption) ?_; (try simp only [Act.put, List.setIfInBounds_toArray, List.set_cons_zero, List.set_cons_succ])) | (refine wpAnyH_take (i := 12) (oi := ⟨_, _, _, _, _, _⟩) (v := ?_) rfl (by kernel_rfl) (by kernel_rfl) (by kernel_rfl) (fun _ _ _ h => h) (Or.inl ⟨by rfl, ?_⟩) (by assumption) ?_; rotate_left; (focus (intro w hSw; (try dsimp only at hSw); go_simp; try with_reducible rfl)); (try simp only [Act.put, List.setIfInBounds_toArray, List.set_cons_zero, List.set_cons_succ]))
              first | (refine wpAnyH_take (i := 13) (oi := ⟨_, _, _, _, _, _⟩) rfl (by kernel_rfl) (by kernel_rfl) (by kernel_rfl) (fun _ _ _ h => h) (Or.inr ⟨by rfl, rfl⟩) (by assumption) ?_; (try simp only [Act.put, List.setIfInBounds_toArray, List.set_cons_zero, List.set_cons_succ])) | (refine wpAnyH_take (i := 13) (oi := ⟨_, _, _, _, _, _⟩) (v := ?_) rfl (by kernel_rfl) (by kernel_rfl) (by kernel_rfl) (fun _ _ _ h => h) (Or.inl ⟨by rfl, ?_⟩) (by assumption) ?_; rotate_left; (focus (intro w hSw; (try dsimp only at hSw); have t0 := cell_then hNl n0 hSw; have t1 := cell_then hNl n1 hSw; have t2 := cell_then hBl b2 hSw; go_simp; try with_reducible rfl)); (try simp only [Act.put, List.setIfInBounds_toArray, List.set_cons_zero, List.set_cons_succ]))
              (refine wpAnyH_take (i := 14) (oi := ⟨_, _, _, _, _, _⟩) rfl (by kernel_rfl) (by kernel_rfl) (by kernel_rfl) (fun _ _ _ h => h) (Or.inr ⟨by rfl, rfl⟩) (by assumption) ?_; (try simp only [Act.put, List.setIfInBounds_toArray, List.set_cons_zero, List.set_cons_succ]))
              first | (refine wpAnyH_take (i := 15) (oi := ⟨_, _, _, _, _, _⟩) rfl (by kernel_rfl) (by kernel_rfl) (by kernel_rfl) (fun _ _ _ h => h) (Or.inr ⟨by rfl, rfl⟩) (by assumption) ?_; (try simp only [Act.put, List.setIfInBounds_toArray, List.set_cons_zero, List.set_cons_succ])) | (refine wpAnyH_take (i := 15) (oi := ⟨_, _, _, _, _, _⟩) (v := ?_) rfl (by kernel_rfl) (by kernel_rfl) (by kernel_rfl) (fun _ _ _ h => h) (Or.inl ⟨by rfl, ?_⟩) (by assumption) ?_; rotate_left; (focus (intro w hSw; (try dsimp only at hSw); go_simp; try with_reducible rfl)); (try simp only [Act.put, List.setIfInBounds_toArray, List.set_cons_zero, List.set_cons_succ]))
              refine wpAnyH_take (i := 16) (oi := ⟨_, _, _, _, _, _⟩) (v := ?_) rfl (by kernel_rfl) (by kernel_rfl) (by kernel_rfl) (fun _ _ _ h => h) (Or.inl ⟨by rfl, ?_⟩) (by assumption) ?_; rotate_left; (focus (intro w hSw; (try dsimp only at hSw); go_simp; try with_reducible rfl)); (try simp only [Act.put, List.setIfInBounds_toArray, List.set_cons_zero, List.set_cons_succ])
              refine wpAnyH_done (by kernel_rfl) ?_ _
              clear n0 n1 b2 hNl hBl hdI hdd hdd2 hdd3 hd0 hyd hydI hym
              have HKz : Hid (WKeep B sv' tv' sv' tv' w9 (w9.drew)) := Lib.hid (WKeep.of_below hHeld)
              have HIa := Lib.hid (HI9.out.below hHeld)
              have HXa := Lib.hid (HX9.out.keep HKz.out)
              have HLa := Lib.hid (HL9.out.keep HKz.out)
              have HKa := Lib.hid (HK9.out.trans HKz.out)
              have HR15 : Hid (RR = ((throwsM H x).drop (i + 1)).foldl (wF H m d x seen th) (ps'.map (·.2), false)) := Lib.hid (by rw [HS.out, HWF.out, if_pos HSkip.out])
              clear HKz HI9 HX9 HL9 HN9 HC9 HK9 HWF HSkip HNy hHeld HS
              generalize (w9.drew) = w10 at *
              go_wp2
              exact ⟨⟨i + 1, _, _, _, _, ps', by go_num, hlt, HIa, HR15, HXa, HLa, HKa⟩, by simp [intOf]; omega⟩
            · have hyd : decide (y < m) = false := decide_eq_false hym
              have hydI : decide ((y : Int) < (m : Int)) = false := decide_eq_false (by omega)
              have HHas := Lib.hid (fun W h => has_c KB B H m y sv' tv' ov' false seen th ps' W h (by have := Hsl.out; omega))
              have HSkip : Hid (skipM m d x t seen = decide (y ∈ seen)) := Lib.hid (by unfold skipM; rw [HNy.out, decide_eq_true (show 0 < d by omega), decide_eq_false hym]; rfl)
              generalize decide (y ∈ seen) = hs at *
              go_wp2
              refine wp_region_held_drew (S := fun w' => Below w9.heap.size w9 w') (by kernel_rfl) (by exact ((Below.refl w9.heap.size w9)).drew) (fun hHeld => ?_)
              refine wpAnyH_take (i := 0) (oi := ⟨_, _, _, _, _, _⟩) (v := ?_) rfl (by kernel_rfl) (by kernel_rfl) (by kernel_rfl) (fun _ _ _ h => h) (Or.inl ⟨by rfl, ?_⟩) (by assumption) ?_; rotate_left; (focus (intro w hSw; (try dsimp only at hSw); go_simp; try with_reducible rfl)); (try simp only [Act.put, List.setIfInBounds_toArray, List.set_cons_zero, List.set_cons_succ])
              refine wpAnyH_take (i := 1) (oi := ⟨_, _, _, _, _, _⟩) (v := ?_) rfl (by kernel_rfl) (by kernel_rfl) (by kernel_rfl) (fun _ _ _ h => h) (Or.inl ⟨by rfl, ?_⟩) (by assumption) ?_; rotate_left; (focus (intro w hSw; (try dsimp only at hSw); go_simp; try with_reducible rfl)); (try simp only [Act.put, List.setIfInBounds_toArray, List.set_cons_zero, List.set_cons_succ])
              refine wpAnyH_take (i := 2) (oi := ⟨_, _, _, _, _, _⟩) (v := ?_) rfl (by kernel_rfl) (by kernel_rfl) (by kernel_rfl) (fun _ _ _ h => h) (Or.inl ⟨by rfl, ?_⟩) (by assumption) ?_; rotate_left; (focus (intro w hSw; (try dsimp only at hSw); go_simp; try with_reducible rfl)); (try simp only [Act.put, List.setIfInBounds_toArray, List.set_cons_zero, List.set_cons_succ])
              first | (refine wpAnyH_take (i := 3) (oi := ⟨_, _, _, _, _, _⟩) rfl (by kernel_rfl) (by kernel_rfl) (by kernel_rfl) (fun _ _ _ h => h) (Or.inr ⟨by rfl, rfl⟩) (by assumption) ?_; (try simp only [Act.put, List.setIfInBounds_toArray, List.set_cons_zero, List.set_cons_succ])) | (refine wpAnyH_take (i := 3) (oi := ⟨_, _, _, _, _, _⟩) (v := ?_) rfl (by kernel_rfl) (by kernel_rfl) (by kernel_rfl) (fun _ _ _ h => h) (Or.inl ⟨by rfl, ?_⟩) (by assumption) ?_; rotate_left; (focus (intro w hSw; (try dsimp only at hSw); go_simp; try with_reducible rfl)); (try simp only [Act.put, List.setIfInBounds_toArray, List.set_cons_zero, List.set_cons_succ]))
              first | (refine wpAnyH_take (i := 4) (oi := ⟨_, _, _, _, _, _⟩) rfl (by kernel_rfl) (by kernel_rfl) (by kernel_rfl) (fun _ _ _ h => h) (Or.inr ⟨by rfl, rfl⟩) (by assumption) ?_; (try simp only [Act.put, List.setIfInBounds_toArray, List.set_cons_zero, List.set_cons_succ])) | (refine wpAnyH_take (i := 4) (oi := ⟨_, _, _, _, _, _⟩) (v := ?_) rfl (by kernel_rfl) (by kernel_rfl) (by kernel_rfl) (fun _ _ _ h => h) (Or.inl ⟨by rfl, ?_⟩) (by assumption) ?_; rotate_left; (focus (intro w hSw; (try dsimp only at hSw); have t0 := cell_then hNl n0 hSw; have t1 := cell_then hNl n1 hSw; have t2 := cell_then hBl b2 hSw; go_simp; try with_reducible rfl)); (try simp only [Act.put, List.setIfInBounds_toArray, List.set_cons_zero, List.set_cons_succ]))
              first | (refine wpAnyH_take (i := 5) (oi := ⟨_, _, _, _, _, _⟩) rfl (by kernel_rfl) (by kernel_rfl) (by kernel_rfl) (fun _ _ _ h => h) (Or.inr ⟨by rfl, rfl⟩) (by assumption) ?_; (try simp only [Act.put, List.setIfInBounds_toArray, List.set_cons_zero, List.set_cons_succ])) | (refine wpAnyH_take (i := 5) (oi := ⟨_, _, _, _, _, _⟩) (v := ?_) rfl (by kernel_rfl) (by kernel_rfl) (by kernel_rfl) (fun _ _ _ h => h) (Or.inl ⟨by rfl, ?_⟩) (by assumption) ?_; rotate_left; (focus (intro w hSw; (try dsimp only at hSw); go_simp; try with_reducible rfl)); (try simp only [Act.put, List.setIfInBounds_toArray, List.set_cons_zero, List.set_cons_succ]))
              first | (refine wpAnyH_take (i := 6) (oi := ⟨_, _, _, _, _, _⟩) rfl (by kernel_rfl) (by kernel_rfl) (by kernel_rfl) (fun _ _ _ h => h) (Or.inr ⟨by rfl, rfl⟩) (by assumption) ?_; (try simp only [Act.put, List.setIfInBounds_toArray, List.set_cons_zero, List.set_cons_succ])) | (refine wpAnyH_take (i := 6) (oi := ⟨_, _, _, _, _, _⟩) (v := ?_) rfl (by kernel_rfl) (by kernel_rfl) (by kernel_rfl) (fun _ _ _ h => h) (Or.inl ⟨by rfl, ?_⟩) (by assumption) ?_; rotate_left; (focus (intro w hSw; (try dsimp only at hSw); go_simp; try with_reducible rfl)); (try simp only [Act.put, List.setIfInBounds_toArray, List.set_cons_zero, List.set_cons_succ]))
              first | (refine wpAnyH_take (i := 7) (oi := ⟨_, _, _, _, _, _⟩) rfl (by kernel_rfl) (by kernel_rfl) (by kernel_rfl) (fun _ _ _ h => h) (Or.inr ⟨by rfl, rfl⟩) (by assumption) ?_; (try simp only [Act.put, List.setIfInBounds_toArray, List.set_cons_zero, List.set_cons_succ])) | (refine wpAnyH_take (i := 7) (oi := ⟨_, _, _, _, _, _⟩) (v := ?_) rfl (by kernel_rfl) (by kernel_rfl) (by kernel_rfl) (fun _ _ _ h => h) (Or.inl ⟨by rfl, ?_⟩) (by assumption) ?_; rotate_left; (focus (intro w hSw; (try dsimp only at hSw); go_simp; try with_reducible rfl)); (try simp only [Act.put, List.setIfInBounds_toArray, List.set_cons_zero, List.set_cons_succ]))
              first | (refine wpAnyH_take (i := 8) (oi := ⟨_, _, _, _, _, _⟩) rfl (by kernel_rfl) (by kernel_rfl) (by kernel_rfl) (fun _ _ _ h => h) (Or.inr ⟨by rfl, rfl⟩) (by assumption) ?_; (try simp only [Act.put, List.setIfInBounds_toArray, List.set_cons_zero, List.set_cons_succ])) | (refine wpAnyH_take (i := 8) (oi := ⟨_, _, _, _, _, _⟩) (v := ?_) rfl (by kernel_rfl) (by kernel_rfl) (by kernel_rfl) (fun _ _ _ h => h) (Or.inl ⟨by rfl, ?_⟩) (by assumption) ?_; rotate_left; (focus (intro w hSw; (try dsimp only at hSw); go_simp; try with_reducible rfl)); (try simp only [Act.put, List.setIfInBounds_toArray, List.set_cons_zero, List.set_cons_succ]))
              first | (refine wpAnyH_take (i := 9) (oi := ⟨_, _, _, _, _, _⟩) rfl (by kernel_rfl) (by kernel_rfl) (by kernel_rfl) (fun _ _ _ h => h) (Or.inr ⟨by rfl, rfl⟩) (by assumption) ?_; (try simp only [Act.put, List.setIfInBounds_toArray, List.set_cons_zero, List.set_cons_succ])) | (refine wpAnyH_take (i := 9) (oi := ⟨_, _, _, _, _, _⟩) (v := ?_) rfl (by kernel_rfl) (by kernel_rfl) (by kernel_rfl) (fun _ _ _ h => h) (Or.inl ⟨by rfl, ?_⟩) (by assumption) ?_; rotate_left; (focus (intro w hSw; (try dsimp only at hSw); have t0 := cell_then hNl n0 hSw; have t1 := cell_then hNl n1 hSw; have t2 := cell_then hBl b2 hSw; go_simp; try with_reducible rfl)); (try simp only [Act.put, List.setIfInBounds_toArray, List.set_cons_zero, List.set_cons_succ]))
              first | (refine wpAnyH_take (i := 10) (oi := ⟨_, _, _, _, _, _⟩) rfl (by kernel_rfl) (by kernel_rfl) (by kernel_rfl) (fun _ _ _ h => h) (Or.inr ⟨by rfl, rfl⟩) (by assumption) ?_; (try simp only [Act.put, List.setIfInBounds_toArray, List.set_cons_zero, List.set_cons_succ])) | (refine wpAnyH_take (i := 10) (oi := ⟨_, _, _, _, _, _⟩) (v := ?_) rfl (by kernel_rfl) (by kernel_rfl) (by kernel_rfl) (fun _ _ _ h => h) (Or.inl ⟨by rfl, ?_⟩) (by assumption) ?_; rotate_left; (focus (intro w hSw; (try dsimp only at hSw); go_simp; try with_reducible rfl)); (try simp only [Act.put, List.setIfInBounds_toArray, List.set_cons_zero, List.set_cons_succ]))
              first | (refine wpAnyH_take (i := 11) (oi := ⟨_, _, _, _, _, _⟩) rfl (by kernel_rfl) (by kernel_rfl) (by kernel_rfl) (fun _ _ _ h => h) (Or.inr ⟨by rfl, rfl⟩) (by assumption) ?_; (try simp only [Act.put, List.setIfInBounds_toArray, List.set_cons_zero, List.set_cons_succ])) | (refine wpAnyH_take (i := 11) (oi := ⟨_, _, _, _, _, _⟩) (v := ?_) rfl (by kernel_rfl) (by kernel_rfl) (by kernel_rfl) (fun _ _ _ h => h) (Or.inl ⟨by rfl, ?_⟩) (by assumption) ?_; rotate_left; (focus (intro w hSw; (try dsimp only at hSw); go_simp; try with_reducible rfl)); (try simp only [Act.put, List.setIfInBounds_toArray, List.set_cons_zero, List.set_cons_succ]))
              first | (refine wpAnyH_take (i := 12) (oi := ⟨_, _, _, _, _, _⟩) rfl (by kernel_rfl) (by kernel_rfl) (by kernel_rfl) (fun _ _ _ h => h) (Or.inr ⟨by rfl, rfl⟩) (by assumption) ?_; (try simp only [Act.put, List.setIfInBounds_toArray, List.set_cons_zero, List.set_cons_succ])) | (refine wpAnyH_take (i := 12) (oi := ⟨_, _, _, _, _, _⟩) (v := ?_) rfl (by kernel_rfl) (by kernel_rfl) (by kernel_rfl) (fun _ _ _ h => h) (Or.inl ⟨by rfl, ?_⟩) (by assumption) ?_; rotate_left; (focus (intro w hSw; (try dsimp only at hSw); go_simp; try with_reducible rfl)); (try simp only [Act.put, List.setIfInBounds_toArray, List.set_cons_zero, List.set_cons_succ]))
              first | (refine wpAnyH_take (i := 13) (oi := ⟨_, _, _, _, _, _⟩) rfl (by kernel_rfl) (by kernel_rfl) (by kernel_rfl) (fun _ _ _ h => h) (Or.inr ⟨by rfl, rfl⟩) (by assumption) ?_; (try simp only [Act.put, List.setIfInBounds_toArray, List.set_cons_zero, List.set_cons_succ])) | (refine wpAnyH_take (i := 13) (oi := ⟨_, _, _, _, _, _⟩) (v := ?_) rfl (by kernel_rfl) (by kernel_rfl) (by kernel_rfl) (fun _ _ _ h => h) (Or.inl ⟨by rfl, ?_⟩) (by assumption) ?_; rotate_left; (focus (intro w hSw; (try dsimp only at hSw); have t0 := cell_then hNl n0 hSw; have t1 := cell_then hNl n1 hSw; have t2 := cell_then hBl b2 hSw; go_simp; try with_reducible rfl)); (try simp only [Act.put, List.setIfInBounds_toArray, List.set_cons_zero, List.set_cons_succ]))
              refine wpAnyH_ready (rs := [14]) (by kernel_rfl) (by simp) ?_
              refine AllReadyH.cons (o := ⟨_, _, _, _, _, _⟩) rfl (fun K hK => ?_) AllReadyH.nil
              go_simp
              go_at_call 50; refine (HHas.out _ (HI9.out.below hHeld)).mono ?_; rintro e x7 ⟨rfl, d7⟩; have hS' := bthen hHeld d7
              refine hK.out _ _ (by exact hS') (fun hHeld' => ?_)
              clear hHeld hK K
              have hHeld := hHeld'
              clear hHeld'
              try simp only [Act.put, List.setIfInBounds_toArray, List.set_cons_zero, List.set_cons_succ]
              first | (refine wpAnyH_take (i := 15) (oi := ⟨_, _, _, _, _, _⟩) rfl (by kernel_rfl) (by kernel_rfl) (by kernel_rfl) (fun _ _ _ h => h) (Or.inr ⟨by rfl, rfl⟩) (by assumption) ?_; (try simp only [Act.put, List.setIfInBounds_toArray, List.set_cons_zero, List.set_cons_succ])) | (refine wpAnyH_take (i := 15) (oi := ⟨_, _, _, _, _, _⟩) (v := ?_) rfl (by kernel_rfl) (by kernel_rfl) (by kernel_rfl) (fun _ _ _ h => h) (Or.inl ⟨by rfl, ?_⟩) (by assumption) ?_; rotate_left; (focus (intro w hSw; (try dsimp only at hSw); go_simp; try with_reducible rfl)); (try simp only [Act.put, List.setIfInBounds_toArray, List.set_cons_zero, List.set_cons_succ]))
              refine wpAnyH_take (i := 16) (oi := ⟨_, _, _, _, _, _⟩) (v := ?_) rfl (by kernel_rfl) (by kernel_rfl) (by kernel_rfl) (fun _ _ _ h => h) (Or.inl ⟨by rfl, ?_⟩) (by assumption) ?_; rotate_left; (focus (intro w hSw; (try dsimp only at hSw); go_simp; try with_reducible rfl)); (try simp only [Act.put, List.setIfInBounds_toArray, List.set_cons_zero, List.set_cons_succ])
              refine wpAnyH_done (by kernel_rfl) ?_ _
              clear n0 n1 b2 hNl hBl hdI hdd hdd2 hdd3 hd0 hyd hydI hym HHas
              cases hs
              · skip
                have HKz : Hid (WKeep B sv' tv' sv' tv' w9 (x7)) := Lib.hid (WKeep.of_below hHeld)
                have HIa := Lib.hid (HI9.out.below hHeld)
                have HXa := Lib.hid (HX9.out.keep HKz.out)
                have HLa := Lib.hid (HL9.out.keep HKz.out)
                have HNa := Lib.hid (HN9.out.keep HKz.out)
                have HCa := Lib.hid (HC9.out.keep HKz.out)
                have HKa := Lib.hid (HK9.out.trans HKz.out)
                have HSk : Hid (wF H m d x seen th (ps'.map (·.2), false) t = wS H m d y (seen ++ [y]) (th ++ [(t : Int)]) (ps'.map (·.2), false)) := Lib.hid (by rw [HWF.out, if_neg (by rw [HSkip.out]; decide)])
                clear HKz HI9 HX9 HL9 HN9 HC9 HK9 HWF HSkip HNy hHeld
                generalize (x7) = w10 at *
                obtain ⟨sa, sn, sc, rfl⟩ := HIa.out.ss
                have HSn : Hid (sn = seen.length) := Lib.hid (by have h := sts_len HIa.out.sts; rw [stM_len] at h; exact h)
                have hbd : Below w10.heap.size w10 w10.drew := (Below.refl _ _).drew
                go_wp2
                refine wp_region_dep (S := fun L w' => Till 10 (fun w' => BoxIs w' B [.int .i64 H, .int .i64 H, .int .i64 m, .slice sa sn sc, tv', ov', .bool false] ∧ BoxIs w' N0 [.int .i64 H, .int .i64 y]) L w') (by kernel_rfl) (by exact (fun _ => ⟨HIa.out.box.below hbd, HNa.out.1.below hbd⟩)) (fun hHeld => ?_)
                refine wpAnyD_take (i := 0) (oi := ⟨_, _, _, _, _, _⟩) (v := ?_) rfl (by kernel_rfl) (by kernel_rfl) (by kernel_rfl) (fun _ _ _ h => h) (by intro L w'; (try dsimp only); repeat (first | exact Iff.rfl | exact Till.ins (by decide) _ _ _ | refine and_congr ?_ ?_)) [] (by kernel_rfl) (by kernel_rfl) (Or.inl ⟨by rfl, ?_⟩) (by assumption) (fun hHeld' => ?_); rotate_left; (focus (intro w _; go_simp; try with_reducible rfl)); clear hHeld; have hHeld := hHeld'; clear hHeld'; (try simp only [Act.put, List.setIfInBounds_toArray, List.set_cons_zero, List.set_cons_succ])
                refine wpAnyD_take (i := 1) (oi := ⟨_, _, _, _, _, _⟩) (v := ?_) rfl (by kernel_rfl) (by kernel_rfl) (by kernel_rfl) (fun _ _ _ h => h) (by intro L w'; (try dsimp only); repeat (first | exact Iff.rfl | exact Till.ins (by decide) _ _ _ | refine and_congr ?_ ?_)) [] (by kernel_rfl) (by kernel_rfl) (Or.inl ⟨by rfl, ?_⟩) (by assumption) (fun hHeld' => ?_); rotate_left; (focus (intro w _; go_simp; try with_reducible rfl)); clear hHeld; have hHeld := hHeld'; clear hHeld'; (try simp only [Act.put, List.setIfInBounds_toArray, List.set_cons_zero, List.set_cons_succ])
                refine wpAnyD_take (i := 2) (oi := ⟨_, _, _, _, _, _⟩) (v := ?_) rfl (by kernel_rfl) (by kernel_rfl) (by kernel_rfl) (fun _ _ _ h => h) (by intro L w'; (try dsimp only); repeat (first | exact Iff.rfl | exact Till.ins (by decide) _ _ _ | refine and_congr ?_ ?_)) [] (by kernel_rfl) (by kernel_rfl) (Or.inl ⟨by rfl, ?_⟩) (by assumption) (fun hHeld' => ?_); rotate_left; (focus (intro w _; go_simp; try with_reducible rfl)); clear hHeld; have hHeld := hHeld'; clear hHeld'; (try simp only [Act.put, List.setIfInBounds_toArray, List.set_cons_zero, List.set_cons_succ])
                refine wpAnyD_take (i := 3) (oi := ⟨_, _, _, _, _, _⟩) (v := ?_) rfl (by kernel_rfl) (by kernel_rfl) (by kernel_rfl) (fun _ _ _ h => h) (by intro L w'; (try dsimp only); repeat (first | exact Iff.rfl | exact Till.ins (by decide) _ _ _ | refine and_congr ?_ ?_)) [] (by kernel_rfl) (by kernel_rfl) (Or.inl ⟨by rfl, ?_⟩) (by assumption) (fun hHeld' => ?_); rotate_left; (focus (intro w _; go_simp; try with_reducible rfl)); clear hHeld; have hHeld := hHeld'; clear hHeld'; (try simp only [Act.put, List.setIfInBounds_toArray, List.set_cons_zero, List.set_cons_succ])
                refine wpAnyD_take (i := 4) (oi := ⟨_, _, _, _, _, _⟩) (v := ?_) rfl (by kernel_rfl) (by kernel_rfl) (by kernel_rfl) (fun _ _ _ h => h) (by intro L w'; (try dsimp only); repeat (first | exact Iff.rfl | exact Till.ins (by decide) _ _ _ | refine and_congr ?_ ?_)) [7, 8, 9, 10] (by kernel_rfl) (by kernel_rfl) (Or.inl ⟨by rfl, ?_⟩) (by assumption) (fun hHeld' => ?_); rotate_left; (focus (intro w hSw0; obtain ⟨L, ho, hSw⟩ := hSw0; (try dsimp only at hSw); have HH := Till.of hSw ho rfl; have t3 : w.cell? ⟨B, 3, none⟩ = some (.slice sa sn sc) := HH.1.2.1 3; have n0 : w.cell? ⟨N0, 0, none⟩ = some (.int .i64 (H : Int)) := HH.2.2.1 0; have n1 : w.cell? ⟨N0, 1, none⟩ = some (.int .i64 (y : Int)) := HH.2.2.1 1; clear HH; clear ho hSw; go_simp; try with_reducible rfl)); clear hHeld; have hHeld := hHeld'; clear hHeld'; (try simp only [Act.put, List.setIfInBounds_toArray, List.set_cons_zero, List.set_cons_succ])
                refine wpAnyD_take (i := 5) (oi := ⟨_, _, _, _, _, _⟩) (v := ?_) rfl (by kernel_rfl) (by kernel_rfl) (by kernel_rfl) (fun _ _ _ h => h) (by intro L w'; (try dsimp only); repeat (first | exact Iff.rfl | exact Till.ins (by decide) _ _ _ | refine and_congr ?_ ?_)) [6, 8, 9, 10] (by kernel_rfl) (by kernel_rfl) (Or.inl ⟨by rfl, ?_⟩) (by assumption) (fun hHeld' => ?_); rotate_left; (focus (intro w hSw0; obtain ⟨L, ho, hSw⟩ := hSw0; (try dsimp only at hSw); have HH := Till.of hSw ho rfl; have t3 : w.cell? ⟨B, 3, none⟩ = some (.slice sa sn sc) := HH.1.2.1 3; have n0 : w.cell? ⟨N0, 0, none⟩ = some (.int .i64 (H : Int)) := HH.2.2.1 0; have n1 : w.cell? ⟨N0, 1, none⟩ = some (.int .i64 (y : Int)) := HH.2.2.1 1; clear HH; clear ho hSw; go_simp; try with_reducible rfl)); clear hHeld; have hHeld := hHeld'; clear hHeld'; (try simp only [Act.put, List.setIfInBounds_toArray, List.set_cons_zero, List.set_cons_succ])
                refine wpAnyD_ready (rs := [6]) (by kernel_rfl) (by simp) ?_
                refine AllReadyD.cons (o := ⟨_, _, _, _, _, _⟩) rfl (fun K hK => ?_) AllReadyD.nil
                go_simp
                refine hK.out _ _ (by exact (fun h => ⟨(hHeld h).1.alloc _, (hHeld h).2.alloc _⟩)) (fun hHeld' => ?_)
                clear hHeld hK K
                have hHeld := hHeld'
                clear hHeld'
                try simp only [Act.put, List.setIfInBounds_toArray, List.set_cons_zero, List.set_cons_succ]
                refine wpAnyD_ready (rs := [7]) (by kernel_rfl) (by simp) ?_
                refine AllReadyD.cons (o := ⟨_, _, _, _, _, _⟩) rfl (fun K hK => ?_) AllReadyD.nil
                refine step_app_sts rfl _ _ rfl KB (.slice sa sn sc) (stM H seen) rfl ((HIa.out.below hbd).below (below_allocP' _ _)).sts _ _ ((H : Int), (y : Int)) rfl (oneSt _ _ _ _) (by rw [stM_len]; have := Hsl.out; omega) (by have h1 := HIa.out.kw; simp; omega) ?_; intro a5 c5 x6 ho5 hg5 hl5; have HX5 := Lib.hid ho5; have HG5 := Lib.hid hg5; have HL5 := Lib.hid hl5; have hS' : ∀ L, Till 10 (fun w' => BoxIs w' B [.int .i64 H, .int .i64 H, .int .i64 m, .slice sa sn sc, tv', ov', .bool false] ∧ BoxIs w' N0 [.int .i64 H, .int .i64 y]) L x6 := fun _ _ => ⟨box_grown ((HIa.out.below hbd).below (below_allocP' _ _)).box hg5 HIa.out.sB, box_grown ((HNa.out.1.below hbd).alloc _) hg5 HNa.out.2.2.1⟩; clear ho5 hg5 hl5
                refine hK.out _ _ (by first | exact hS' | exact hS' _) (fun hHeld' => ?_)
                clear hHeld hK K
                have hHeld := hHeld'
                clear hHeld'
                try simp only [Act.put, List.setIfInBounds_toArray, List.set_cons_zero, List.set_cons_succ]
                refine wpAnyD_take (i := 8) (oi := ⟨_, _, _, _, _, _⟩) (v := ?_) rfl (by kernel_rfl) (by kernel_rfl) (by kernel_rfl) (fun _ _ _ h => h) (by intro L w'; (try dsimp only); repeat (first | exact Iff.rfl | exact Till.ins (by decide) _ _ _ | refine and_congr ?_ ?_)) [] (by kernel_rfl) (by kernel_rfl) (Or.inl ⟨by rfl, ?_⟩) (by assumption) (fun hHeld' => ?_); rotate_left; (focus (intro w _; go_simp; try with_reducible rfl)); clear hHeld; have hHeld := hHeld'; clear hHeld'; (try simp only [Act.put, List.setIfInBounds_toArray, List.set_cons_zero, List.set_cons_succ])
                refine wpAnyD_take (i := 9) (oi := ⟨_, _, _, _, _, _⟩) (v := ?_) rfl (by kernel_rfl) (by kernel_rfl) (by kernel_rfl) (fun _ _ _ h => h) (by intro L w'; (try dsimp only); repeat (first | exact Iff.rfl | exact Till.ins (by decide) _ _ _ | refine and_congr ?_ ?_)) [] (by kernel_rfl) (by kernel_rfl) (Or.inl ⟨by rfl, ?_⟩) (by assumption) (fun hHeld' => ?_); rotate_left; (focus (intro w _; go_simp; try with_reducible rfl)); clear hHeld; have hHeld := hHeld'; clear hHeld'; (try simp only [Act.put, List.setIfInBounds_toArray, List.set_cons_zero, List.set_cons_succ])
                refine wpAnyD_ready (rs := [10]) (by kernel_rfl) (by simp) ?_
                refine AllReadyD.cons (o := ⟨_, _, _, _, _, _⟩) rfl (fun K hK => ?_) AllReadyD.nil
                have g3 : x6.cell? ⟨B, 3, none⟩ = some (.slice sa sn sc) := (hHeld rfl).1.2.1 3; have gf3 : x6.frozen? ⟨B, 3, none⟩ = false := (hHeld rfl).1.2.2 3
                go_simp
                refine hK.out _ _ (by exact (fun h => absurd h (by decide))) (fun hHeld' => ?_)
                clear hHeld hK K
                have hHeld := hHeld'
                clear hHeld'
                try simp only [Act.put, List.setIfInBounds_toArray, List.set_cons_zero, List.set_cons_succ]
                refine wpAnyD_done (by kernel_rfl) ?_ _
                have hsl9 : (stM H seen).length = sn := by rw [stM_len]; exact HSn.out.symm
                have HI10 : Hid (WInv (x6.setCell ⟨B, 3, none⟩ (.slice a5 ((stM H seen).length + 1) c5)) KB B H m (.slice a5 ((stM H seen).length + 1) c5) tv' ov' false (seen ++ [y]) th ps') := Lib.hid (WInv.pushS ((HIa.out.below hbd).below (below_allocP' _ _)) (by have h := HX5.out; unfold stM at h ⊢; rw [List.map_append]; exact h) HG5.out HL5.out ⟨_, _, _, rfl⟩)
                have HKs : Hid (WKeep B (.slice sa sn sc) tv' (.slice a5 ((stM H seen).length + 1) c5) tv' w10 (x6.setCell ⟨B, 3, none⟩ (.slice a5 ((stM H seen).length + 1) c5))) := Lib.hid ((WKeep.of_below (Below.trans' hbd (below_allocP' _ _))).trans (WKeep.pushS HG5.out HL5.out 3 _))
                clear HX5 HG5 HL5 hHeld HIa
                generalize x6.setCell ⟨B, 3, none⟩ (.slice a5 ((stM H seen).length + 1) c5) = w11 at *
                rw [hsl9] at HI10 HKs ⊢
                have HX10 := Lib.hid (HXa.out.keep HKs.out)
                have HL10 := Lib.hid (HLa.out.keep HKs.out)
                have HN10 := Lib.hid (HNa.out.keep HKs.out)
                have HC10 := Lib.hid (HCa.out.keep HKs.out)
                have HK10 := Lib.hid (HKa.out.trans HKs.out)
                clear HXa HLa HNa HCa HKa HKs hbd hsl9
                obtain ⟨ta, tn, tc, rfl⟩ := HI10.out.tl
                have hbd : Below w11.heap.size w11 w11.drew := (Below.refl _ _).drew
                have HTn : Hid (tn = th.length) := Lib.hid (by obtain ⟨_, _, e⟩ := slice_of_own HI10.out.thr; injection e)
                go_wp2
                refine wp_region_dep (S := fun L w' => Till 13 (fun w' => BoxIs w' B [.int .i64 H, .int .i64 H, .int .i64 m, .slice a5 (sn + 1) c5, .slice ta tn tc, ov', .bool false] ∧ w'.cell? ⟨lb, lo + i, none⟩ = some (.int .i64 (t : Int))) L w') (by kernel_rfl) (by exact (fun _ => ⟨HI10.out.box.below hbd, cell_then HC10.out.2.1 HC10.out.1 hbd⟩)) (fun hHeld => ?_)
                refine wpAnyD_take (i := 0) (oi := ⟨_, _, _, _, _, _⟩) (v := ?_) rfl (by kernel_rfl) (by kernel_rfl) (by kernel_rfl) (fun _ _ _ h => h) (by intro L w'; (try dsimp only); repeat (first | exact Iff.rfl | exact Till.ins (by decide) _ _ _ | refine and_congr ?_ ?_)) [] (by kernel_rfl) (by kernel_rfl) (Or.inl ⟨by rfl, ?_⟩) (by assumption) (fun hHeld' => ?_); rotate_left; (focus (intro w _; go_simp; try with_reducible rfl)); clear hHeld; have hHeld := hHeld'; clear hHeld'; (try simp only [Act.put, List.setIfInBounds_toArray, List.set_cons_zero, List.set_cons_succ])
                refine wpAnyD_take (i := 1) (oi := ⟨_, _, _, _, _, _⟩) (v := ?_) rfl (by kernel_rfl) (by kernel_rfl) (by kernel_rfl) (fun _ _ _ h => h) (by intro L w'; (try dsimp only); repeat (first | exact Iff.rfl | exact Till.ins (by decide) _ _ _ | refine and_congr ?_ ?_)) [] (by kernel_rfl) (by kernel_rfl) (Or.inl ⟨by rfl, ?_⟩) (by assumption) (fun hHeld' => ?_); rotate_left; (focus (intro w _; go_simp; try with_reducible rfl)); clear hHeld; have hHeld := hHeld'; clear hHeld'; (try simp only [Act.put, List.setIfInBounds_toArray, List.set_cons_zero, List.set_cons_succ])
                refine wpAnyD_take (i := 2) (oi := ⟨_, _, _, _, _, _⟩) (v := ?_) rfl (by kernel_rfl) (by kernel_rfl) (by kernel_rfl) (fun _ _ _ h => h) (by intro L w'; (try dsimp only); repeat (first | exact Iff.rfl | exact Till.ins (by decide) _ _ _ | refine and_congr ?_ ?_)) [] (by kernel_rfl) (by kernel_rfl) (Or.inl ⟨by rfl, ?_⟩) (by assumption) (fun hHeld' => ?_); rotate_left; (focus (intro w _; go_simp; try with_reducible rfl)); clear hHeld; have hHeld := hHeld'; clear hHeld'; (try simp only [Act.put, List.setIfInBounds_toArray, List.set_cons_zero, List.set_cons_succ])
                refine wpAnyD_take (i := 3) (oi := ⟨_, _, _, _, _, _⟩) (v := ?_) rfl (by kernel_rfl) (by kernel_rfl) (by kernel_rfl) (fun _ _ _ h => h) (by intro L w'; (try dsimp only); repeat (first | exact Iff.rfl | exact Till.ins (by decide) _ _ _ | refine and_congr ?_ ?_)) [] (by kernel_rfl) (by kernel_rfl) (Or.inl ⟨by rfl, ?_⟩) (by assumption) (fun hHeld' => ?_); rotate_left; (focus (intro w _; go_simp; try with_reducible rfl)); clear hHeld; have hHeld := hHeld'; clear hHeld'; (try simp only [Act.put, List.setIfInBounds_toArray, List.set_cons_zero, List.set_cons_succ])
                refine wpAnyD_take (i := 4) (oi := ⟨_, _, _, _, _, _⟩) (v := ?_) rfl (by kernel_rfl) (by kernel_rfl) (by kernel_rfl) (fun _ _ _ h => h) (by intro L w'; (try dsimp only); repeat (first | exact Iff.rfl | exact Till.ins (by decide) _ _ _ | refine and_congr ?_ ?_)) [10, 11, 12, 13] (by kernel_rfl) (by kernel_rfl) (Or.inl ⟨by rfl, ?_⟩) (by assumption) (fun hHeld' => ?_); rotate_left; (focus (intro w hSw0; obtain ⟨L, ho, hSw⟩ := hSw0; (try dsimp only at hSw); have HH := Till.of hSw ho rfl; have t4 : w.cell? ⟨B, 4, none⟩ = some (.slice ta tn tc) := HH.1.2.1 4; have n0 := HH.2; clear HH; clear ho hSw; go_simp; try with_reducible rfl)); clear hHeld; have hHeld := hHeld'; clear hHeld'; (try simp only [Act.put, List.setIfInBounds_toArray, List.set_cons_zero, List.set_cons_succ])
                refine wpAnyD_take (i := 5) (oi := ⟨_, _, _, _, _, _⟩) (v := ?_) rfl (by kernel_rfl) (by kernel_rfl) (by kernel_rfl) (fun _ _ _ h => h) (by intro L w'; (try dsimp only); repeat (first | exact Iff.rfl | exact Till.ins (by decide) _ _ _ | refine and_congr ?_ ?_)) [] (by kernel_rfl) (by kernel_rfl) (Or.inl ⟨by rfl, ?_⟩) (by assumption) (fun hHeld' => ?_); rotate_left; (focus (intro w _; go_simp; try with_reducible rfl)); clear hHeld; have hHeld := hHeld'; clear hHeld'; (try simp only [Act.put, List.setIfInBounds_toArray, List.set_cons_zero, List.set_cons_succ])
                refine wpAnyD_take (i := 6) (oi := ⟨_, _, _, _, _, _⟩) (v := ?_) rfl (by kernel_rfl) (by kernel_rfl) (by kernel_rfl) (fun _ _ _ h => h) (by intro L w'; (try dsimp only); repeat (first | exact Iff.rfl | exact Till.ins (by decide) _ _ _ | refine and_congr ?_ ?_)) [] (by kernel_rfl) (by kernel_rfl) (Or.inl ⟨by rfl, ?_⟩) (by assumption) (fun hHeld' => ?_); rotate_left; (focus (intro w _; go_simp; try with_reducible rfl)); clear hHeld; have hHeld := hHeld'; clear hHeld'; (try simp only [Act.put, List.setIfInBounds_toArray, List.set_cons_zero, List.set_cons_succ])
                refine wpAnyD_take (i := 7) (oi := ⟨_, _, _, _, _, _⟩) (v := ?_) rfl (by kernel_rfl) (by kernel_rfl) (by kernel_rfl) (fun _ _ _ h => h) (by intro L w'; (try dsimp only); repeat (first | exact Iff.rfl | exact Till.ins (by decide) _ _ _ | refine and_congr ?_ ?_)) [] (by kernel_rfl) (by kernel_rfl) (Or.inl ⟨by rfl, ?_⟩) (by assumption) (fun hHeld' => ?_); rotate_left; (focus (intro w _; go_simp; try with_reducible rfl)); clear hHeld; have hHeld := hHeld'; clear hHeld'; (try simp only [Act.put, List.setIfInBounds_toArray, List.set_cons_zero, List.set_cons_succ])
                refine wpAnyD_take (i := 8) (oi := ⟨_, _, _, _, _, _⟩) (v := ?_) rfl (by kernel_rfl) (by kernel_rfl) (by kernel_rfl) (fun _ _ _ h => h) (by intro L w'; (try dsimp only); repeat (first | exact Iff.rfl | exact Till.ins (by decide) _ _ _ | refine and_congr ?_ ?_)) [9, 11, 12, 13] (by kernel_rfl) (by kernel_rfl) (Or.inl ⟨by rfl, ?_⟩) (by assumption) (fun hHeld' => ?_); rotate_left; (focus (intro w hSw0; obtain ⟨L, ho, hSw⟩ := hSw0; (try dsimp only at hSw); have HH := Till.of hSw ho rfl; have t4 : w.cell? ⟨B, 4, none⟩ = some (.slice ta tn tc) := HH.1.2.1 4; have n0 := HH.2; clear HH; clear ho hSw; go_simp; try with_reducible rfl)); clear hHeld; have hHeld := hHeld'; clear hHeld'; (try simp only [Act.put, List.setIfInBounds_toArray, List.set_cons_zero, List.set_cons_succ])
                refine wpAnyD_ready (rs := [9]) (by kernel_rfl) (by simp) ?_
                refine AllReadyD.cons (o := ⟨_, _, _, _, _, _⟩) rfl (fun K hK => ?_) AllReadyD.nil
                go_simp
                refine hK.out _ _ (by exact (fun h => ⟨(hHeld h).1.alloc _, cell_then (World.block_lt_of_cell? _ _ (hHeld h).2) (hHeld h).2 (below_allocP' _ _)⟩)) (fun hHeld' => ?_)
                clear hHeld hK K
                have hHeld := hHeld'
                clear hHeld'
                try simp only [Act.put, List.setIfInBounds_toArray, List.set_cons_zero, List.set_cons_succ]
                refine wpAnyD_ready (rs := [10]) (by kernel_rfl) (by simp) ?_
                refine AllReadyD.cons (o := ⟨_, _, _, _, _, _⟩) rfl (fun K hK => ?_) AllReadyD.nil
                refine step_app_intsI rfl _ _ rfl KB (.slice ta tn tc) th rfl ((HI10.out.below hbd).below (below_allocP' _ _)).thr _ 1 1 [(t : Int)] rfl rfl (ints_new _ _ _) (by have := Hth.out; simp; omega) (by have h1 := HI10.out.kw; simp; omega) ?_; intro a7 n7 c7 x8 ho7 hg7 hl7; have HX7 := Lib.hid ho7; have HG7 := Lib.hid hg7; have HL7 := Lib.hid hl7; have hS' : ∀ L, Till 13 (fun w' => BoxIs w' B [.int .i64 H, .int .i64 H, .int .i64 m, .slice a5 (sn + 1) c5, .slice ta tn tc, ov', .bool false] ∧ w'.cell? ⟨lb, lo + i, none⟩ = some (.int .i64 (t : Int))) L x8 := fun _ _ => ⟨box_grown ((HI10.out.below hbd).below (below_allocP' _ _)).box hg7 HI10.out.tB, (World.cell?_of_block (a := ⟨lb, lo + i, none⟩) (hg7.block lb (by have := HC10.out.2.1; simp; omega) (fun e => HC10.out.2.2.2.2 e.symm))).trans (cell_then (World.block_lt_of_cell? _ _ (cell_then HC10.out.2.1 HC10.out.1 hbd)) (cell_then HC10.out.2.1 HC10.out.1 hbd) (below_allocP' _ _))⟩; clear ho7 hg7 hl7
                refine hK.out _ _ (by first | exact hS' | exact hS' _) (fun hHeld' => ?_)
                clear hHeld hK K
                have hHeld := hHeld'
                clear hHeld'
                try simp only [Act.put, List.setIfInBounds_toArray, List.set_cons_zero, List.set_cons_succ]
                refine wpAnyD_take (i := 11) (oi := ⟨_, _, _, _, _, _⟩) (v := ?_) rfl (by kernel_rfl) (by kernel_rfl) (by kernel_rfl) (fun _ _ _ h => h) (by intro L w'; (try dsimp only); repeat (first | exact Iff.rfl | exact Till.ins (by decide) _ _ _ | refine and_congr ?_ ?_)) [] (by kernel_rfl) (by kernel_rfl) (Or.inl ⟨by rfl, ?_⟩) (by assumption) (fun hHeld' => ?_); rotate_left; (focus (intro w _; go_simp; try with_reducible rfl)); clear hHeld; have hHeld := hHeld'; clear hHeld'; (try simp only [Act.put, List.setIfInBounds_toArray, List.set_cons_zero, List.set_cons_succ])
                refine wpAnyD_take (i := 12) (oi := ⟨_, _, _, _, _, _⟩) (v := ?_) rfl (by kernel_rfl) (by kernel_rfl) (by kernel_rfl) (fun _ _ _ h => h) (by intro L w'; (try dsimp only); repeat (first | exact Iff.rfl | exact Till.ins (by decide) _ _ _ | refine and_congr ?_ ?_)) [] (by kernel_rfl) (by kernel_rfl) (Or.inl ⟨by rfl, ?_⟩) (by assumption) (fun hHeld' => ?_); rotate_left; (focus (intro w _; go_simp; try with_reducible rfl)); clear hHeld; have hHeld := hHeld'; clear hHeld'; (try simp only [Act.put, List.setIfInBounds_toArray, List.set_cons_zero, List.set_cons_succ])
                refine wpAnyD_ready (rs := [13]) (by kernel_rfl) (by simp) ?_
                refine AllReadyD.cons (o := ⟨_, _, _, _, _, _⟩) rfl (fun K hK => ?_) AllReadyD.nil
                have g3 : x8.cell? ⟨B, 4, none⟩ = some (.slice ta tn tc) := (hHeld rfl).1.2.1 4; have gf3 : x8.frozen? ⟨B, 4, none⟩ = false := (hHeld rfl).1.2.2 4
                go_simp
                refine hK.out _ _ (by exact (fun h => absurd h (by decide))) (fun hHeld' => ?_)
                clear hHeld hK K
                have hHeld := hHeld'
                clear hHeld'
                try simp only [Act.put, List.setIfInBounds_toArray, List.set_cons_zero, List.set_cons_succ]
                refine wpAnyD_done (by kernel_rfl) ?_ _
                have HI12 : Hid (WInv (x8.setCell ⟨B, 4, none⟩ (.slice a7 n7 c7)) KB B H m (.slice a5 (sn + 1) c5) (.slice a7 n7 c7) ov' false (seen ++ [y]) (th ++ [(t : Int)]) ps') := Lib.hid (WInv.pushT ((HI10.out.below hbd).below (below_allocP' _ _)) HX7.out HG7.out HL7.out ⟨_, _, _, rfl⟩)
                have HKs : Hid (WKeep B (.slice a5 (sn + 1) c5) (.slice ta tn tc) (.slice a5 (sn + 1) c5) (.slice a7 n7 c7) w11 (x8.setCell ⟨B, 4, none⟩ (.slice a7 n7 c7))) := Lib.hid ((WKeep.of_below (Below.trans' hbd (below_allocP' _ _))).trans (WKeep.pushT HG7.out HL7.out 4 _))
                clear HX7 HG7 HL7 hHeld HI10
                generalize x8.setCell ⟨B, 4, none⟩ (.slice a7 n7 c7) = w12 at *
                have HX12 := Lib.hid (HX10.out.keep HKs.out)
                have HL12 := Lib.hid (HL10.out.keep HKs.out)
                have HN12 := Lib.hid (HN10.out.keep HKs.out)
                have HK12 := Lib.hid (HK10.out.trans HKs.out)
                clear HX10 HL10 HN10 HC10 HK10 HKs hbd
                have HRec := Lib.hid (IH.out y (seen ++ [y]) (th ++ [(t : Int)]) w12 _ _ _ ps' hy (by have := Hsl.out; simp; omega) (by have := Hth.out; simp; omega) HI12.out)
                have n0 : w12.cell? ⟨N0, 0, none⟩ = some (.int .i64 (H : Int)) := HN12.out.1.2.1 0
                have n1 : w12.cell? ⟨N0, 1, none⟩ = some (.int .i64 (y : Int)) := HN12.out.1.2.1 1
                have hwl : IntKind.i64.wrap ((d : Int) + 1 - 1) = (d : Int) := by rw [IntWalk.i64_in _ (by omega)]; omega
                have hwl2 : IntKind.i64.wrap (d : Int) = (d : Int) := IntWalk.i64_in _ (by omega)
                generalize wS H m d y (seen ++ [y]) (th ++ [(t : Int)]) (ps'.map (·.2), false) = R9 at *
                clear HI12
                go_wp2_with fail
                refine HRec.out.mono ?_
                rintro e w13 ⟨rfl, sv3, tv3, ov3, full3, ps3, hI3, hR3, hK3⟩
                have HX13 := Lib.hid (HX12.out.keep hK3)
                have HL13 := Lib.hid (HL12.out.keep hK3)
                have HK13 := Lib.hid (HK12.out.trans hK3)
                have HR3 := Lib.hid hR3
                have hl3 : (stM H (seen ++ [y])).length = sn + 1 := by rw [stM_len, List.length_append, HSn.out]; rfl
                obtain ⟨sa3, sn3, sc3, rfl⟩ := hI3.ss
                have hsn3 : sn3 = sn + 1 := by rw [← hl3]; exact sts_len hI3.sts
                subst hsn3
                obtain ⟨sg3, rfl, -, -⟩ := sts_head hI3.sts (by omega)
                obtain ⟨ta3, tn3, tc3, rfl⟩ := hI3.tl
                have htn3 : tn3 = tn + 1 := by
                  obtain ⟨_, _, e⟩ := slice_of_own hI3.thr
                  injection e with _ e2 _
                  rw [e2, HTn.out]; simp
                subst htn3
                obtain ⟨tg3, rfl⟩ : ∃ g, ta3 = some ⟨g, 0, none⟩ := by
                  obtain ⟨g, cap, e, _, _⟩ := hI3.thr.form (by simp)
                  injection e with e1
                  exact ⟨g, e1⟩
                have hcapt : tn ≤ tc3 := by
                  rcases hI3.thr.2 with ⟨e, _⟩ | ⟨g, cap, cur, e, _, _, hnc, _⟩
                  · cases e
                  · injection e with _ _ e3; subst e3; rw [HTn.out]; simp at hnc; omega
                have hcaps : sn ≤ sc3 := by
                  rcases hI3.sts.2 with ⟨e, _⟩ | ⟨g, cap, cur, e, _, _, hnc, _⟩
                  · cases e
                  · injection e with _ _ e3; subst e3; rw [hl3] at hnc; omega
                have HI13 := Lib.hid hI3
                clear hI3 hR3 hK3 HX12 HL12 HN12 HK12 HRec n0 n1 hl3
                have hwt : IntKind.i64.wrap (tn : Int) = (tn : Int) := IntWalk.i64_in _ (by have := Hth.out; have h2 := HTn.out; omega)
                have hws : IntKind.i64.wrap (sn : Int) = (sn : Int) := IntWalk.i64_in _ (by have := Hsl.out; have h2 := HSn.out; omega)
                have hit0 : (0 : Int) ≤ (tn : Int) := by omega
                have hit1 : (tn : Int) ≤ (tc3 : Int) := by omega
                have his0 : (0 : Int) ≤ (sn : Int) := by omega
                have his1 : (sn : Int) ≤ (sc3 : Int) := by omega
                have hbd : Below w13.heap.size w13 w13.drew := (Below.refl _ _).drew
                go_wp2
                refine wp_region_dep (S := fun L w' => Till 14 (fun w' => BoxIs w' B [.int .i64 H, .int .i64 H, .int .i64 m, .slice (some ⟨sg3, 0, none⟩) (sn + 1) sc3, .slice (some ⟨tg3, 0, none⟩) (tn + 1) tc3, ov3, .bool full3]) L w') (by kernel_rfl) (by exact (fun _ => HI13.out.box.below hbd)) (fun hHeld => ?_)
                refine wpAnyD_take (i := 0) (oi := ⟨_, _, _, _, _, _⟩) (v := ?_) rfl (by kernel_rfl) (by kernel_rfl) (by kernel_rfl) (fun _ _ _ h => h) (by intro L w'; (try dsimp only); repeat (first | exact Iff.rfl | exact Till.ins (by decide) _ _ _ | refine and_congr ?_ ?_)) [] (by kernel_rfl) (by kernel_rfl) (Or.inl ⟨by rfl, ?_⟩) (by assumption) (fun hHeld' => ?_); rotate_left; (focus (intro w _; go_simp; try with_reducible rfl)); clear hHeld; have hHeld := hHeld'; clear hHeld'; (try simp only [Act.put, List.setIfInBounds_toArray, List.set_cons_zero, List.set_cons_succ])
                refine wpAnyD_take (i := 1) (oi := ⟨_, _, _, _, _, _⟩) (v := ?_) rfl (by kernel_rfl) (by kernel_rfl) (by kernel_rfl) (fun _ _ _ h => h) (by intro L w'; (try dsimp only); repeat (first | exact Iff.rfl | exact Till.ins (by decide) _ _ _ | refine and_congr ?_ ?_)) [] (by kernel_rfl) (by kernel_rfl) (Or.inl ⟨by rfl, ?_⟩) (by assumption) (fun hHeld' => ?_); rotate_left; (focus (intro w _; go_simp; try with_reducible rfl)); clear hHeld; have hHeld := hHeld'; clear hHeld'; (try simp only [Act.put, List.setIfInBounds_toArray, List.set_cons_zero, List.set_cons_succ])
                refine wpAnyD_take (i := 2) (oi := ⟨_, _, _, _, _, _⟩) (v := ?_) rfl (by kernel_rfl) (by kernel_rfl) (by kernel_rfl) (fun _ _ _ h => h) (by intro L w'; (try dsimp only); repeat (first | exact Iff.rfl | exact Till.ins (by decide) _ _ _ | refine and_congr ?_ ?_)) [] (by kernel_rfl) (by kernel_rfl) (Or.inl ⟨by rfl, ?_⟩) (by assumption) (fun hHeld' => ?_); rotate_left; (focus (intro w _; go_simp; try with_reducible rfl)); clear hHeld; have hHeld := hHeld'; clear hHeld'; (try simp only [Act.put, List.setIfInBounds_toArray, List.set_cons_zero, List.set_cons_succ])
                refine wpAnyD_take (i := 3) (oi := ⟨_, _, _, _, _, _⟩) (v := ?_) rfl (by kernel_rfl) (by kernel_rfl) (by kernel_rfl) (fun _ _ _ h => h) (by intro L w'; (try dsimp only); repeat (first | exact Iff.rfl | exact Till.ins (by decide) _ _ _ | refine and_congr ?_ ?_)) [] (by kernel_rfl) (by kernel_rfl) (Or.inl ⟨by rfl, ?_⟩) (by assumption) (fun hHeld' => ?_); rotate_left; (focus (intro w _; go_simp; try with_reducible rfl)); clear hHeld; have hHeld := hHeld'; clear hHeld'; (try simp only [Act.put, List.setIfInBounds_toArray, List.set_cons_zero, List.set_cons_succ])
                refine wpAnyD_take (i := 4) (oi := ⟨_, _, _, _, _, _⟩) (v := ?_) rfl (by kernel_rfl) (by kernel_rfl) (by kernel_rfl) (fun _ _ _ h => h) (by intro L w'; (try dsimp only); repeat (first | exact Iff.rfl | exact Till.ins (by decide) _ _ _ | refine and_congr ?_ ?_)) [11, 12, 13, 14] (by kernel_rfl) (by kernel_rfl) (Or.inl ⟨by rfl, ?_⟩) (by assumption) (fun hHeld' => ?_); rotate_left; (focus (intro w hSw0; obtain ⟨L, ho, hSw⟩ := hSw0; (try dsimp only at hSw); have HH := Till.of hSw ho rfl; have t4 : w.cell? ⟨B, 4, none⟩ = some (.slice (some ⟨tg3, 0, none⟩) (tn + 1) tc3) := HH.2.1 4; clear HH; clear ho hSw; go_simp; try with_reducible rfl)); clear hHeld; have hHeld := hHeld'; clear hHeld'; (try simp only [Act.put, List.setIfInBounds_toArray, List.set_cons_zero, List.set_cons_succ])
                refine wpAnyD_take (i := 5) (oi := ⟨_, _, _, _, _, _⟩) (v := ?_) rfl (by kernel_rfl) (by kernel_rfl) (by kernel_rfl) (fun _ _ _ h => h) (by intro L w'; (try dsimp only); repeat (first | exact Iff.rfl | exact Till.ins (by decide) _ _ _ | refine and_congr ?_ ?_)) [] (by kernel_rfl) (by kernel_rfl) (Or.inl ⟨by rfl, ?_⟩) (by assumption) (fun hHeld' => ?_); rotate_left; (focus (intro w _; go_simp; try with_reducible rfl)); clear hHeld; have hHeld := hHeld'; clear hHeld'; (try simp only [Act.put, List.setIfInBounds_toArray, List.set_cons_zero, List.set_cons_succ])
                refine wpAnyD_take (i := 6) (oi := ⟨_, _, _, _, _, _⟩) (v := ?_) rfl (by kernel_rfl) (by kernel_rfl) (by kernel_rfl) (fun _ _ _ h => h) (by intro L w'; (try dsimp only); repeat (first | exact Iff.rfl | exact Till.ins (by decide) _ _ _ | refine and_congr ?_ ?_)) [] (by kernel_rfl) (by kernel_rfl) (Or.inl ⟨by rfl, ?_⟩) (by assumption) (fun hHeld' => ?_); rotate_left; (focus (intro w _; go_simp; try with_reducible rfl)); clear hHeld; have hHeld := hHeld'; clear hHeld'; (try simp only [Act.put, List.setIfInBounds_toArray, List.set_cons_zero, List.set_cons_succ])
                refine wpAnyD_take (i := 7) (oi := ⟨_, _, _, _, _, _⟩) (v := ?_) rfl (by kernel_rfl) (by kernel_rfl) (by kernel_rfl) (fun _ _ _ h => h) (by intro L w'; (try dsimp only); repeat (first | exact Iff.rfl | exact Till.ins (by decide) _ _ _ | refine and_congr ?_ ?_)) [] (by kernel_rfl) (by kernel_rfl) (Or.inl ⟨by rfl, ?_⟩) (by assumption) (fun hHeld' => ?_); rotate_left; (focus (intro w _; go_simp; try with_reducible rfl)); clear hHeld; have hHeld := hHeld'; clear hHeld'; (try simp only [Act.put, List.setIfInBounds_toArray, List.set_cons_zero, List.set_cons_succ])
                refine wpAnyD_take (i := 8) (oi := ⟨_, _, _, _, _, _⟩) (v := ?_) rfl (by kernel_rfl) (by kernel_rfl) (by kernel_rfl) (fun _ _ _ h => h) (by intro L w'; (try dsimp only); repeat (first | exact Iff.rfl | exact Till.ins (by decide) _ _ _ | refine and_congr ?_ ?_)) [9, 12, 13, 14] (by kernel_rfl) (by kernel_rfl) (Or.inl ⟨by rfl, ?_⟩) (by assumption) (fun hHeld' => ?_); rotate_left; (focus (intro w hSw0; obtain ⟨L, ho, hSw⟩ := hSw0; (try dsimp only at hSw); have HH := Till.of hSw ho rfl; have t4 : w.cell? ⟨B, 4, none⟩ = some (.slice (some ⟨tg3, 0, none⟩) (tn + 1) tc3) := HH.2.1 4; clear HH; clear ho hSw; go_simp; try with_reducible rfl)); clear hHeld; have hHeld := hHeld'; clear hHeld'; (try simp only [Act.put, List.setIfInBounds_toArray, List.set_cons_zero, List.set_cons_succ])
                refine wpAnyD_take (i := 9) (oi := ⟨_, _, _, _, _, _⟩) (v := ?_) rfl (by kernel_rfl) (by kernel_rfl) (by kernel_rfl) (fun _ _ _ h => h) (by intro L w'; (try dsimp only); repeat (first | exact Iff.rfl | exact Till.ins (by decide) _ _ _ | refine and_congr ?_ ?_)) [] (by kernel_rfl) (by kernel_rfl) (Or.inl ⟨by rfl, ?_⟩) (by assumption) (fun hHeld' => ?_); rotate_left; (focus (intro w _; go_simp; try with_reducible rfl)); clear hHeld; have hHeld := hHeld'; clear hHeld'; (try simp only [Act.put, List.setIfInBounds_toArray, List.set_cons_zero, List.set_cons_succ])
                refine wpAnyD_take (i := 10) (oi := ⟨_, _, _, _, _, _⟩) (v := ?_) rfl (by kernel_rfl) (by kernel_rfl) (by kernel_rfl) (fun _ _ _ h => h) (by intro L w'; (try dsimp only); repeat (first | exact Iff.rfl | exact Till.ins (by decide) _ _ _ | refine and_congr ?_ ?_)) [] (by kernel_rfl) (by kernel_rfl) (Or.inl ⟨by rfl, ?_⟩) (by assumption) (fun hHeld' => ?_); rotate_left; (focus (intro w _; go_simp; try with_reducible rfl)); clear hHeld; have hHeld := hHeld'; clear hHeld'; (try simp only [Act.put, List.setIfInBounds_toArray, List.set_cons_zero, List.set_cons_succ])
                refine wpAnyD_take (i := 11) (oi := ⟨_, _, _, _, _, _⟩) (v := ?_) rfl (by kernel_rfl) (by kernel_rfl) (by kernel_rfl) (fun _ _ _ h => h) (by intro L w'; (try dsimp only); repeat (first | exact Iff.rfl | exact Till.ins (by decide) _ _ _ | refine and_congr ?_ ?_)) [] (by kernel_rfl) (by kernel_rfl) (Or.inl ⟨by rfl, ?_⟩) (by assumption) (fun hHeld' => ?_); rotate_left; (focus (intro w _; go_simp; try with_reducible rfl)); clear hHeld; have hHeld := hHeld'; clear hHeld'; (try simp only [Act.put, List.setIfInBounds_toArray, List.set_cons_zero, List.set_cons_succ])
                refine wpAnyD_take (i := 12) (oi := ⟨_, _, _, _, _, _⟩) (v := ?_) rfl (by kernel_rfl) (by kernel_rfl) (by kernel_rfl) (fun _ _ _ h => h) (by intro L w'; (try dsimp only); repeat (first | exact Iff.rfl | exact Till.ins (by decide) _ _ _ | refine and_congr ?_ ?_)) [] (by kernel_rfl) (by kernel_rfl) (Or.inl ⟨by rfl, ?_⟩) (by assumption) (fun hHeld' => ?_); rotate_left; (focus (intro w _; go_simp; try with_reducible rfl)); clear hHeld; have hHeld := hHeld'; clear hHeld'; (try simp only [Act.put, List.setIfInBounds_toArray, List.set_cons_zero, List.set_cons_succ])
                refine wpAnyD_take (i := 13) (oi := ⟨_, _, _, _, _, _⟩) (v := ?_) rfl (by kernel_rfl) (by kernel_rfl) (by kernel_rfl) (fun _ _ _ h => h) (by intro L w'; (try dsimp only); repeat (first | exact Iff.rfl | exact Till.ins (by decide) _ _ _ | refine and_congr ?_ ?_)) [] (by kernel_rfl) (by kernel_rfl) (Or.inl ⟨by rfl, ?_⟩) (by assumption) (fun hHeld' => ?_); rotate_left; (focus (intro w _; go_simp; try with_reducible rfl)); clear hHeld; have hHeld := hHeld'; clear hHeld'; (try simp only [Act.put, List.setIfInBounds_toArray, List.set_cons_zero, List.set_cons_succ])
                refine wpAnyD_ready (rs := [14]) (by kernel_rfl) (by simp) ?_
                refine AllReadyD.cons (o := ⟨_, _, _, _, _, _⟩) rfl (fun K hK => ?_) AllReadyD.nil
                have g3 : w13.drew.cell? ⟨B, 4, none⟩ = some (.slice (some ⟨tg3, 0, none⟩) (tn + 1) tc3) := (hHeld rfl).2.1 4; have gf3 : w13.drew.frozen? ⟨B, 4, none⟩ = false := (hHeld rfl).2.2 4
                go_simp
                refine hK.out _ _ (by exact (fun h => absurd h (by decide))) (fun hHeld' => ?_)
                clear hHeld hK K
                have hHeld := hHeld'
                clear hHeld'
                try simp only [Act.put, List.setIfInBounds_toArray, List.set_cons_zero, List.set_cons_succ]
                refine wpAnyD_done (by kernel_rfl) ?_ _
                have HI14 : Hid (WInv ((w13.setCell ⟨B, 4, none⟩ (.slice (some ⟨tg3, 0, none⟩) tn tc3)).drew) KB B H m (.slice (some ⟨sg3, 0, none⟩) (sn + 1) sc3) (.slice (some ⟨tg3, 0, none⟩) tn tc3) ov3 full3 (seen ++ [y]) th ps3) := Lib.hid (by
                  have h := (WInv.popT HI13.out tn (by rw [HTn.out]; simp)).below (Below.drew (Below.refl _ _))
                  rw [List.take_left' HTn.out.symm] at h
                  exact h)
                have HKs : Hid (WKeep B (.slice (some ⟨sg3, 0, none⟩) (sn + 1) sc3) (.slice (some ⟨tg3, 0, none⟩) (tn + 1) tc3) (.slice (some ⟨sg3, 0, none⟩) (sn + 1) sc3) (.slice (some ⟨tg3, 0, none⟩) tn tc3) w13 ((w13.setCell ⟨B, 4, none⟩ (.slice (some ⟨tg3, 0, none⟩) tn tc3)).drew)) := Lib.hid ((WKeep.pop (sv := .slice (some ⟨sg3, 0, none⟩) (sn + 1) sc3) (tv := .slice (some ⟨tg3, 0, none⟩) (tn + 1) tc3) (sv' := .slice (some ⟨sg3, 0, none⟩) (sn + 1) sc3) (tv' := .slice (some ⟨tg3, 0, none⟩) tn tc3) (fun _ h => h) (fun _ h => h) 4 (.slice (some ⟨tg3, 0, none⟩) tn tc3)).trans (WKeep.of_below (w := w13.setCell ⟨B, 4, none⟩ (.slice (some ⟨tg3, 0, none⟩) tn tc3)) (Below.drew (Below.refl _ _))))
                have HX14 := Lib.hid (HX13.out.keep HKs.out)
                have HL14 := Lib.hid (HL13.out.keep HKs.out)
                have HK14 := Lib.hid (HK13.out.trans HKs.out)
                have hwD : ((w13.drew.setCell ⟨B, 4, none⟩ (.slice (some ⟨tg3, 0, none⟩) tn tc3))) = ((w13.setCell ⟨B, 4, none⟩ (.slice (some ⟨tg3, 0, none⟩) tn tc3)).drew) := rfl
                try rw [hwD]
                clear HKs hHeld HI13 HX13 HL13 HK13 hbd hwD
                generalize ((w13.setCell ⟨B, 4, none⟩ (.slice (some ⟨tg3, 0, none⟩) tn tc3)).drew) = w14 at *
                have hbd : Below w14.heap.size w14 w14.drew := (Below.refl _ _).drew
                go_wp2
                refine wp_region_dep (S := fun L w' => Till 14 (fun w' => BoxIs w' B [.int .i64 H, .int .i64 H, .int .i64 m, .slice (some ⟨sg3, 0, none⟩) (sn + 1) sc3, .slice (some ⟨tg3, 0, none⟩) tn tc3, ov3, .bool full3]) L w') (by kernel_rfl) (by exact (fun _ => HI14.out.box.below hbd)) (fun hHeld => ?_)
                refine wpAnyD_take (i := 0) (oi := ⟨_, _, _, _, _, _⟩) (v := ?_) rfl (by kernel_rfl) (by kernel_rfl) (by kernel_rfl) (fun _ _ _ h => h) (by intro L w'; (try dsimp only); repeat (first | exact Iff.rfl | exact Till.ins (by decide) _ _ _ | refine and_congr ?_ ?_)) [] (by kernel_rfl) (by kernel_rfl) (Or.inl ⟨by rfl, ?_⟩) (by assumption) (fun hHeld' => ?_); rotate_left; (focus (intro w _; go_simp; try with_reducible rfl)); clear hHeld; have hHeld := hHeld'; clear hHeld'; (try simp only [Act.put, List.setIfInBounds_toArray, List.set_cons_zero, List.set_cons_succ])
                refine wpAnyD_take (i := 1) (oi := ⟨_, _, _, _, _, _⟩) (v := ?_) rfl (by kernel_rfl) (by kernel_rfl) (by kernel_rfl) (fun _ _ _ h => h) (by intro L w'; (try dsimp only); repeat (first | exact Iff.rfl | exact Till.ins (by decide) _ _ _ | refine and_congr ?_ ?_)) [] (by kernel_rfl) (by kernel_rfl) (Or.inl ⟨by rfl, ?_⟩) (by assumption) (fun hHeld' => ?_); rotate_left; (focus (intro w _; go_simp; try with_reducible rfl)); clear hHeld; have hHeld := hHeld'; clear hHeld'; (try simp only [Act.put, List.setIfInBounds_toArray, List.set_cons_zero, List.set_cons_succ])
                refine wpAnyD_take (i := 2) (oi := ⟨_, _, _, _, _, _⟩) (v := ?_) rfl (by kernel_rfl) (by kernel_rfl) (by kernel_rfl) (fun _ _ _ h => h) (by intro L w'; (try dsimp only); repeat (first | exact Iff.rfl | exact Till.ins (by decide) _ _ _ | refine and_congr ?_ ?_)) [] (by kernel_rfl) (by kernel_rfl) (Or.inl ⟨by rfl, ?_⟩) (by assumption) (fun hHeld' => ?_); rotate_left; (focus (intro w _; go_simp; try with_reducible rfl)); clear hHeld; have hHeld := hHeld'; clear hHeld'; (try simp only [Act.put, List.setIfInBounds_toArray, List.set_cons_zero, List.set_cons_succ])
                refine wpAnyD_take (i := 3) (oi := ⟨_, _, _, _, _, _⟩) (v := ?_) rfl (by kernel_rfl) (by kernel_rfl) (by kernel_rfl) (fun _ _ _ h => h) (by intro L w'; (try dsimp only); repeat (first | exact Iff.rfl | exact Till.ins (by decide) _ _ _ | refine and_congr ?_ ?_)) [] (by kernel_rfl) (by kernel_rfl) (Or.inl ⟨by rfl, ?_⟩) (by assumption) (fun hHeld' => ?_); rotate_left; (focus (intro w _; go_simp; try with_reducible rfl)); clear hHeld; have hHeld := hHeld'; clear hHeld'; (try simp only [Act.put, List.setIfInBounds_toArray, List.set_cons_zero, List.set_cons_succ])
                refine wpAnyD_take (i := 4) (oi := ⟨_, _, _, _, _, _⟩) (v := ?_) rfl (by kernel_rfl) (by kernel_rfl) (by kernel_rfl) (fun _ _ _ h => h) (by intro L w'; (try dsimp only); repeat (first | exact Iff.rfl | exact Till.ins (by decide) _ _ _ | refine and_congr ?_ ?_)) [11, 12, 13, 14] (by kernel_rfl) (by kernel_rfl) (Or.inl ⟨by rfl, ?_⟩) (by assumption) (fun hHeld' => ?_); rotate_left; (focus (intro w hSw0; obtain ⟨L, ho, hSw⟩ := hSw0; (try dsimp only at hSw); have HH := Till.of hSw ho rfl; have t4 : w.cell? ⟨B, 3, none⟩ = some (.slice (some ⟨sg3, 0, none⟩) (sn + 1) sc3) := HH.2.1 3; clear HH; clear ho hSw; go_simp; try with_reducible rfl)); clear hHeld; have hHeld := hHeld'; clear hHeld'; (try simp only [Act.put, List.setIfInBounds_toArray, List.set_cons_zero, List.set_cons_succ])
                refine wpAnyD_take (i := 5) (oi := ⟨_, _, _, _, _, _⟩) (v := ?_) rfl (by kernel_rfl) (by kernel_rfl) (by kernel_rfl) (fun _ _ _ h => h) (by intro L w'; (try dsimp only); repeat (first | exact Iff.rfl | exact Till.ins (by decide) _ _ _ | refine and_congr ?_ ?_)) [] (by kernel_rfl) (by kernel_rfl) (Or.inl ⟨by rfl, ?_⟩) (by assumption) (fun hHeld' => ?_); rotate_left; (focus (intro w _; go_simp; try with_reducible rfl)); clear hHeld; have hHeld := hHeld'; clear hHeld'; (try simp only [Act.put, List.setIfInBounds_toArray, List.set_cons_zero, List.set_cons_succ])
                refine wpAnyD_take (i := 6) (oi := ⟨_, _, _, _, _, _⟩) (v := ?_) rfl (by kernel_rfl) (by kernel_rfl) (by kernel_rfl) (fun _ _ _ h => h) (by intro L w'; (try dsimp only); repeat (first | exact Iff.rfl | exact Till.ins (by decide) _ _ _ | refine and_congr ?_ ?_)) [] (by kernel_rfl) (by kernel_rfl) (Or.inl ⟨by rfl, ?_⟩) (by assumption) (fun hHeld' => ?_); rotate_left; (focus (intro w _; go_simp; try with_reducible rfl)); clear hHeld; have hHeld := hHeld'; clear hHeld'; (try simp only [Act.put, List.setIfInBounds_toArray, List.set_cons_zero, List.set_cons_succ])
                refine wpAnyD_take (i := 7) (oi := ⟨_, _, _, _, _, _⟩) (v := ?_) rfl (by kernel_rfl) (by kernel_rfl) (by kernel_rfl) (fun _ _ _ h => h) (by intro L w'; (try dsimp only); repeat (first | exact Iff.rfl | exact Till.ins (by decide) _ _ _ | refine and_congr ?_ ?_)) [] (by kernel_rfl) (by kernel_rfl) (Or.inl ⟨by rfl, ?_⟩) (by assumption) (fun hHeld' => ?_); rotate_left; (focus (intro w _; go_simp; try with_reducible rfl)); clear hHeld; have hHeld := hHeld'; clear hHeld'; (try simp only [Act.put, List.setIfInBounds_toArray, List.set_cons_zero, List.set_cons_succ])
                refine wpAnyD_take (i := 8) (oi := ⟨_, _, _, _, _, _⟩) (v := ?_) rfl (by kernel_rfl) (by kernel_rfl) (by kernel_rfl) (fun _ _ _ h => h) (by intro L w'; (try dsimp only); repeat (first | exact Iff.rfl | exact Till.ins (by decide) _ _ _ | refine and_congr ?_ ?_)) [9, 12, 13, 14] (by kernel_rfl) (by kernel_rfl) (Or.inl ⟨by rfl, ?_⟩) (by assumption) (fun hHeld' => ?_); rotate_left; (focus (intro w hSw0; obtain ⟨L, ho, hSw⟩ := hSw0; (try dsimp only at hSw); have HH := Till.of hSw ho rfl; have t4 : w.cell? ⟨B, 3, none⟩ = some (.slice (some ⟨sg3, 0, none⟩) (sn + 1) sc3) := HH.2.1 3; clear HH; clear ho hSw; go_simp; try with_reducible rfl)); clear hHeld; have hHeld := hHeld'; clear hHeld'; (try simp only [Act.put, List.setIfInBounds_toArray, List.set_cons_zero, List.set_cons_succ])
                refine wpAnyD_take (i := 9) (oi := ⟨_, _, _, _, _, _⟩) (v := ?_) rfl (by kernel_rfl) (by kernel_rfl) (by kernel_rfl) (fun _ _ _ h => h) (by intro L w'; (try dsimp only); repeat (first | exact Iff.rfl | exact Till.ins (by decide) _ _ _ | refine and_congr ?_ ?_)) [] (by kernel_rfl) (by kernel_rfl) (Or.inl ⟨by rfl, ?_⟩) (by assumption) (fun hHeld' => ?_); rotate_left; (focus (intro w _; go_simp; try with_reducible rfl)); clear hHeld; have hHeld := hHeld'; clear hHeld'; (try simp only [Act.put, List.setIfInBounds_toArray, List.set_cons_zero, List.set_cons_succ])
                refine wpAnyD_take (i := 10) (oi := ⟨_, _, _, _, _, _⟩) (v := ?_) rfl (by kernel_rfl) (by kernel_rfl) (by kernel_rfl) (fun _ _ _ h => h) (by intro L w'; (try dsimp only); repeat (first | exact Iff.rfl | exact Till.ins (by decide) _ _ _ | refine and_congr ?_ ?_)) [] (by kernel_rfl) (by kernel_rfl) (Or.inl ⟨by rfl, ?_⟩) (by assumption) (fun hHeld' => ?_); rotate_left; (focus (intro w _; go_simp; try with_reducible rfl)); clear hHeld; have hHeld := hHeld'; clear hHeld'; (try simp only [Act.put, List.setIfInBounds_toArray, List.set_cons_zero, List.set_cons_succ])
                refine wpAnyD_take (i := 11) (oi := ⟨_, _, _, _, _, _⟩) (v := ?_) rfl (by kernel_rfl) (by kernel_rfl) (by kernel_rfl) (fun _ _ _ h => h) (by intro L w'; (try dsimp only); repeat (first | exact Iff.rfl | exact Till.ins (by decide) _ _ _ | refine and_congr ?_ ?_)) [] (by kernel_rfl) (by kernel_rfl) (Or.inl ⟨by rfl, ?_⟩) (by assumption) (fun hHeld' => ?_); rotate_left; (focus (intro w _; go_simp; try with_reducible rfl)); clear hHeld; have hHeld := hHeld'; clear hHeld'; (try simp only [Act.put, List.setIfInBounds_toArray, List.set_cons_zero, List.set_cons_succ])
                refine wpAnyD_take (i := 12) (oi := ⟨_, _, _, _, _, _⟩) (v := ?_) rfl (by kernel_rfl) (by kernel_rfl) (by kernel_rfl) (fun _ _ _ h => h) (by intro L w'; (try dsimp only); repeat (first | exact Iff.rfl | exact Till.ins (by decide) _ _ _ | refine and_congr ?_ ?_)) [] (by kernel_rfl) (by kernel_rfl) (Or.inl ⟨by rfl, ?_⟩) (by assumption) (fun hHeld' => ?_); rotate_left; (focus (intro w _; go_simp; try with_reducible rfl)); clear hHeld; have hHeld := hHeld'; clear hHeld'; (try simp only [Act.put, List.setIfInBounds_toArray, List.set_cons_zero, List.set_cons_succ])
                refine wpAnyD_take (i := 13) (oi := ⟨_, _, _, _, _, _⟩) (v := ?_) rfl (by kernel_rfl) (by kernel_rfl) (by kernel_rfl) (fun _ _ _ h => h) (by intro L w'; (try dsimp only); repeat (first | exact Iff.rfl | exact Till.ins (by decide) _ _ _ | refine and_congr ?_ ?_)) [] (by kernel_rfl) (by kernel_rfl) (Or.inl ⟨by rfl, ?_⟩) (by assumption) (fun hHeld' => ?_); rotate_left; (focus (intro w _; go_simp; try with_reducible rfl)); clear hHeld; have hHeld := hHeld'; clear hHeld'; (try simp only [Act.put, List.setIfInBounds_toArray, List.set_cons_zero, List.set_cons_succ])
                refine wpAnyD_ready (rs := [14]) (by kernel_rfl) (by simp) ?_
                refine AllReadyD.cons (o := ⟨_, _, _, _, _, _⟩) rfl (fun K hK => ?_) AllReadyD.nil
                have g3 : w14.drew.cell? ⟨B, 3, none⟩ = some (.slice (some ⟨sg3, 0, none⟩) (sn + 1) sc3) := (hHeld rfl).2.1 3; have gf3 : w14.drew.frozen? ⟨B, 3, none⟩ = false := (hHeld rfl).2.2 3
                go_simp
                refine hK.out _ _ (by exact (fun h => absurd h (by decide))) (fun hHeld' => ?_)
                clear hHeld hK K
                have hHeld := hHeld'
                clear hHeld'
                try simp only [Act.put, List.setIfInBounds_toArray, List.set_cons_zero, List.set_cons_succ]
                refine wpAnyD_done (by kernel_rfl) ?_ _
                have HI15 : Hid (WInv ((w14.setCell ⟨B, 3, none⟩ (.slice (some ⟨sg3, 0, none⟩) sn sc3)).drew) KB B H m (.slice (some ⟨sg3, 0, none⟩) sn sc3) (.slice (some ⟨tg3, 0, none⟩) tn tc3) ov3 full3 seen th ps3) := Lib.hid (by
                  have h := (WInv.popS HI14.out sn (by rw [HSn.out]; simp)).below (Below.drew (Below.refl _ _))
                  rw [List.take_left' HSn.out.symm] at h
                  exact h)
                have HKs : Hid (WKeep B (.slice (some ⟨sg3, 0, none⟩) (sn + 1) sc3) (.slice (some ⟨tg3, 0, none⟩) tn tc3) (.slice (some ⟨sg3, 0, none⟩) sn sc3) (.slice (some ⟨tg3, 0, none⟩) tn tc3) w14 ((w14.setCell ⟨B, 3, none⟩ (.slice (some ⟨sg3, 0, none⟩) sn sc3)).drew)) := Lib.hid ((WKeep.pop (sv := .slice (some ⟨sg3, 0, none⟩) (sn + 1) sc3) (tv := .slice (some ⟨tg3, 0, none⟩) tn tc3) (sv' := .slice (some ⟨sg3, 0, none⟩) sn sc3) (tv' := .slice (some ⟨tg3, 0, none⟩) tn tc3) (fun _ h => h) (fun _ h => h) 3 (.slice (some ⟨sg3, 0, none⟩) sn sc3)).trans (WKeep.of_below (w := w14.setCell ⟨B, 3, none⟩ (.slice (some ⟨sg3, 0, none⟩) sn sc3)) (Below.drew (Below.refl _ _))))
                have HX15 := Lib.hid (HX14.out.keep HKs.out)
                have HL15 := Lib.hid (HL14.out.keep HKs.out)
                have HK15 := Lib.hid (HK14.out.trans HKs.out)
                have hwD : ((w14.drew.setCell ⟨B, 3, none⟩ (.slice (some ⟨sg3, 0, none⟩) sn sc3))) = ((w14.setCell ⟨B, 3, none⟩ (.slice (some ⟨sg3, 0, none⟩) sn sc3)).drew) := rfl
                try rw [hwD]
                have HR15 : Hid (RR = ((throwsM H x).drop (i + 1)).foldl (wF H m d x seen th) (ps3.map (·.2), full3)) := Lib.hid (by rw [HS.out, HSk.out, HR3.out])
                clear HKs hHeld HI14 HX14 HL14 HK14 hbd hwD HS HSk HR3
                generalize ((w14.setCell ⟨B, 3, none⟩ (.slice (some ⟨sg3, 0, none⟩) sn sc3)).drew) = w15 at *
                go_wp2
                exact ⟨⟨i + 1, _, _, _, _, ps3, by go_num, hlt, HI15, HR15, HX15, HL15, HK15⟩, by simp [intOf]; omega⟩
              · skip
                have HKz : Hid (WKeep B sv' tv' sv' tv' w9 (x7)) := Lib.hid (WKeep.of_below hHeld)
                have HIa := Lib.hid (HI9.out.below hHeld)
                have HXa := Lib.hid (HX9.out.keep HKz.out)
                have HLa := Lib.hid (HL9.out.keep HKz.out)
                have HKa := Lib.hid (HK9.out.trans HKz.out)
                have HR15 : Hid (RR = ((throwsM H x).drop (i + 1)).foldl (wF H m d x seen th) (ps'.map (·.2), false)) := Lib.hid (by rw [HS.out, HWF.out, if_pos HSkip.out])
                clear HKz HI9 HX9 HL9 HN9 HC9 HK9 HWF HSkip HNy hHeld HS
                generalize (x7) = w10 at *
                go_wp2
                exact ⟨⟨i + 1, _, _, _, _, ps', by go_num, hlt, HIa, HR15, HXa, HLa, HKa⟩, by simp [intOf]; omega⟩
      · have HE : Hid (RR = (ps'.map (·.2), true)) := Lib.hid (by rw [HR.out, wF_stuck _ _ _ _ _ _ _ _ rfl])
        clear HR
        go_wp2
        (try simp only [Exit.inBlock, Exit.then])
        first | refine bodyPost_ret (results_none rfl _ _ _) rfl ?_ | refine bodyPost_end (results_none rfl _ _ _) rfl ?_
        exact WalkPost.mk HI.out HE.out.symm HK.out
    · obtain rfl : i = ln := by omega
      have HE : Hid (RR = (ps'.map (·.2), full')) := Lib.hid (by rw [HR.out, List.drop_eq_nil_of_le (by rw [HLen.out]; exact Nat.le_refl _)]; rfl)
      clear HR
      go_wp2
      (try simp only [Exit.inBlock, Exit.then])
      first | refine bodyPost_ret (results_none rfl _ _ _) rfl ?_ | refine bodyPost_end (results_none rfl _ _ _) rfl ?_
      exact WalkPost.mk HI.out HE.out.symm HK.out
theorem walk_c (KB B H m P : Nat) (hP1 : 1 ≤ P) (hP : P ≤ 6) (hH : H ≤ 7) : ∀ d, WalkSpec KB B H m P d
  | 0 => walk_leaf KB B H m P hP1 hP
  | d + 1 => walk_loop KB B H m P d hP1 hP hH (walk_c KB B H m P hP1 hP hH d)
end Go.Proofs.Ythdejhningghcaa
