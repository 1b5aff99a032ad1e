import Derived.Test.YthdejhningghcaaMg35
/- PrD: the search for prime patterns of the package impl, walked. -/
namespace Go.Proofs.Ythdejhningghcaa
open Go.ChangeShapes Go.WideShapes Go.ChangeAt Go.RowKit

def takenB (P : Nat) (pre : List Int) (j : Nat) : Bool := decide (j ∈ lndN P pre)
theorem flat_le {α β : Type} (f : α → List β) (B : Nat) : ∀ l : List α, (∀ x ∈ l, (f x).length ≤ B) → (l.flatMap f).length ≤ l.length * B
  | [], _ => by simp
  | x :: l, h => by
    have h1 := flat_le f B l (fun y hy => h y (List.mem_cons_of_mem _ hy))
    have h2 := h x (List.mem_cons_self ..)
    rw [List.flatMap_cons, List.length_append, List.length_cons, Nat.succ_mul]; omega
theorem each_len {H : Nat} (hH : H ≤ 7) (P : Nat) : ∀ (d : Nat) (pre : List Int) (left : Nat), (eachF H P d pre left).length ≤ 8 ^ d
  | 0, pre, left => by unfold eachF; split <;> simp
  | d + 1, pre, left => by
    unfold eachF
    have h1 := flat_le (fun t => if (pre.length + t) % P ∈ lndN P pre then [] else eachF H P d (pre ++ [(t : Int)]) (left - t)) (8 ^ d) (List.range' (left - d * H) (min H left + 1 - (left - d * H))) (fun t _ => by
      split
      · simp
      · exact each_len hH P d _ _)
    rw [List.length_range'] at h1
    have h2 : (min H left + 1 - (left - d * H)) * 8 ^ d ≤ 8 * 8 ^ d := Nat.mul_le_mul_right _ (by omega)
    rw [Nat.pow_succ]; omega
theorem taken_snoc {P : Nat} {pre : List Int} {t r : Nat} (hr : r = (pre.length + t) % P) : (fun j => if j = r then true else takenB P pre j) = takenB P (pre ++ [(t : Int)]) := by
  funext j
  unfold takenB
  rw [lndN_snoc, ← hr]
  by_cases e : j = r
  · subst e; simp
  · simp [e]
theorem taken_back {P : Nat} {pre : List Int} {t r : Nat} (hr : r = (pre.length + t) % P) (hf : takenB P pre r = false) : (fun j => if j = r then false else takenB P (pre ++ [(t : Int)]) j) = takenB P pre := by
  funext j
  rw [← taken_snoc hr]
  by_cases e : j = r
  · subst e; simp [hf]
  · simp [e]
theorem flat_step {α : Type} (F : Nat → List α) {t Hi : Nat} (h : t ≤ Hi) : (List.range' t (Hi + 1 - t)).flatMap F = F t ++ (List.range' (t + 1) (Hi + 1 - (t + 1))).flatMap F := by
  obtain ⟨k, hk⟩ : ∃ k, Hi = t + k := ⟨Hi - t, by omega⟩
  subst hk
  rw [show t + k + 1 - t = k + 1 by omega, show t + k + 1 - (t + 1) = k by omega, List.range'_succ, List.flatMap_cons]
theorem flat_end {α : Type} (F : Nat → List α) {t Hi : Nat} (h : Hi < t) : (List.range' t (Hi + 1 - t)).flatMap F = [] := by
  rw [show Hi + 1 - t = 0 by omega]; rfl
theorem below_allocP (W : World) (o : Obj) : Below W.heap.size W (W.alloc o) := (Below.refl _ _).alloc (Nat.le_refl _) _
/-- 'append(out, numbers)' in a region that draws its order. -/
theorem step_app_intsP {w : World} {ops : Array Oper} {o : Oper} {a : Act} {K : Act → World → Prop} {Q : Exit → Act → World → Prop} {E : Prop} (hgd : o.guard = none) (s x : Operand)
    (ho : o.op = .call { callee := .builtin .append, args := #[s, x], argTypes := #[35, 35] })
    (base : Nat) (v : Value) (l : List Int) (hs : a.eval s = v) (hown : OwnInts w base v l)
    (A : Option Addr) (m c : Nat) (t : List Int) (hx : a.eval x = .slice A m c) (hm : m = t.length) (hr : IntsC w A t)
    (hsz : l.length + t.length ≤ 1073741824) (hbase : base ≤ w.heap.size)
    (h : ∀ a' n' c' w', OwnInts w' base (.slice a' n' c') (l ++ t) → w.grownBy w' v.ownBlock → ((Value.slice a' n' c').ownBlock = v.ownBlock ∨ (Value.slice a' n' c').ownBlock = some w.heap.size) → K (a.put o.dst (.slice a' n' c')) w') :
    if Region.wanted o (yielded ops a.tmps) = true then Oper.wp Try.prog o a w K Q else E := by
  obtain ⟨i0, h1, h2, h3, h4⟩ := intInfo'
  refine step_append_any w hgd s x 35 ho base 2 i0 _ 1 8 Try.underlying35 h1 h2 h3 h4 rfl (by decide) v l.length _ hs hown w.heap.size A m c (t.map (Value.int .i64)) hx (by rw [hm]; exact reads_ints hr) (ints_one t) (by rw [hm]; unfold maxLen; omega) (by rw [hm]; omega) hbase ?_
  intro v' w' hown' hg hb
  obtain ⟨a', c', rfl⟩ := slice_of_own hown'
  exact h a' _ c' w' (by unfold OwnInts; rw [List.map_append, List.length_append]; rw [hm] at hown'; rw [hm]; exact hown') hg hb
def StepPost (KB B TB OB P H : Nat) (w : World) (pre : List Int) (ps : List (Value × List Int)) (E : List (List Int)) (e : Ending) (w' : World) : Prop :=
  e = .returned (.bool true) ∧ ∃ (lv' fv' : Value) (ps' : List (Value × List Int)), SInv w' KB B TB OB P H lv' (.func (.func 25) #[] #[.pointer (some ⟨OB, 0, none⟩)]) fv' ps' pre (takenB P pre) ∧ ps'.map (·.2) = ps.map (·.2) ++ E.filter implT ∧ Below KB w w'
def StepSpec (KB B TB OB P H d : Nat) : Prop := ∀ (pre : List Int) (left : Nat) (w : World) (lv fv : Value) (ps : List (Value × List Int)), pre.length + d = P → (∀ x ∈ pre, 0 ≤ x ∧ x ≤ (H : Int)) → (lndN P pre).Nodup → left ≤ 100 → SInv w KB B TB OB P H lv (.func (.func 25) #[] #[.pointer (some ⟨OB, 0, none⟩)]) fv ps pre (takenB P pre) → ps.length + 8 ^ d ≤ 1000000 →
  Calls Try.prog 35 #[.pointer (some ⟨B, 0, none⟩), .int .i64 left] w (StepPost KB B TB OB P H w pre ps (eachF H P d pre left))
set_option maxRecDepth 100000 in
set_option maxHeartbeats 4000000 in
theorem step_leaf (KB B TB OB P H : Nat) (hP1 : 1 ≤ P) (hP : P ≤ 6) (hH : H ≤ 7) : StepSpec KB B TB OB P H 0 := by
  intro pre left w lv fv ps hd hin hnd hleft hI hcnt
  obtain ⟨la, ln, lc, rfl⟩ := hI.ls
  have hlen : ln = pre.length := by obtain ⟨_, _, e⟩ := slice_of_own hI.list; injection e
  have hlP : ln = P := by omega
  subst hlP
  have hok : okPat pre = true := ok_lndN (fun x hx => by have := hin x hx; omega) (by omega) (by omega) (by rw [← hlen]; exact hnd)
  have h10 : ∀ x ∈ pre, x ≤ 10 := fun x hx => by have := hin x hx; omega
  have HI := Lib.hid hI
  have c0 := hI.box.c0; have c2 := hI.box.c2; have c4 := hI.box.c4
  have Hok := Lib.hid hok
  have H10 := Lib.hid h10
  have Hcnt := Lib.hid hcnt
  have KC := Lib.hid (fun W hL => copyNumbers_c (.slice la ln lc) pre W hL (by omega))
  clear hI hin hnd hok h10 hcnt hd hlen
  by_cases h0 : left = 0
  · subst h0
    have HE : Hid (eachF H ln 0 pre 0 = [pre]) := Lib.hid rfl
    generalize eachF H ln 0 pre 0 = E at *
    go_enter Try.func35, Try.ntmps35
    go_wp2
    refine wp_region_held_drew (S := fun w' => SBox w' B TB ln H (.slice la ln lc) (.func (.func 25) #[] #[.pointer (some ⟨OB, 0, none⟩)]) (takenB ln pre)) (by kernel_rfl) (by exact (HI.out.box.below (Below.refl _ _).drew)) (fun hHeld => ?_)
    refine wpAnyH_take (i := 0) (oi := ⟨_, _, _, _, _, _⟩) (v := ?_) rfl (by kernel_rfl) (by kernel_rfl) (by kernel_rfl) (fun _ _ _ h => h) (Or.inl ⟨by rfl, ?_⟩) (by assumption) ?_; rotate_left; (focus (intro w hSw; (try dsimp only at hSw); go_simp; try with_reducible rfl)); (try simp only [Act.put, List.setIfInBounds_toArray, List.set_cons_zero, List.set_cons_succ])
    refine wpAnyH_take (i := 1) (oi := ⟨_, _, _, _, _, _⟩) (v := ?_) rfl (by kernel_rfl) (by kernel_rfl) (by kernel_rfl) (fun _ _ _ h => h) (Or.inl ⟨by rfl, ?_⟩) (by assumption) ?_; rotate_left; (focus (intro w hSw; (try dsimp only at hSw); go_simp; try with_reducible rfl)); (try simp only [Act.put, List.setIfInBounds_toArray, List.set_cons_zero, List.set_cons_succ])
    refine wpAnyH_take (i := 2) (oi := ⟨_, _, _, _, _, _⟩) (v := ?_) rfl (by kernel_rfl) (by kernel_rfl) (by kernel_rfl) (fun _ _ _ h => h) (Or.inl ⟨by rfl, ?_⟩) (by assumption) ?_; rotate_left; (focus (intro w hSw; (try dsimp only at hSw); go_simp; try with_reducible rfl)); (try simp only [Act.put, List.setIfInBounds_toArray, List.set_cons_zero, List.set_cons_succ])
    first | (refine wpAnyH_take (i := 3) (oi := ⟨_, _, _, _, _, _⟩) rfl (by kernel_rfl) (by kernel_rfl) (by kernel_rfl) (fun _ _ _ h => h) (Or.inr ⟨by rfl, rfl⟩) (by assumption) ?_; (try simp only [Act.put, List.setIfInBounds_toArray, List.set_cons_zero, List.set_cons_succ])) | (refine wpAnyH_take (i := 3) (oi := ⟨_, _, _, _, _, _⟩) (v := ?_) rfl (by kernel_rfl) (by kernel_rfl) (by kernel_rfl) (fun _ _ _ h => h) (Or.inl ⟨by rfl, ?_⟩) (by assumption) ?_; rotate_left; (focus (intro w hSw; (try dsimp only at hSw); go_simp; try with_reducible rfl)); (try simp only [Act.put, List.setIfInBounds_toArray, List.set_cons_zero, List.set_cons_succ]))
    first | (refine wpAnyH_take (i := 4) (oi := ⟨_, _, _, _, _, _⟩) rfl (by kernel_rfl) (by kernel_rfl) (by kernel_rfl) (fun _ _ _ h => h) (Or.inr ⟨by rfl, rfl⟩) (by assumption) ?_; (try simp only [Act.put, List.setIfInBounds_toArray, List.set_cons_zero, List.set_cons_succ])) | (refine wpAnyH_take (i := 4) (oi := ⟨_, _, _, _, _, _⟩) (v := ?_) rfl (by kernel_rfl) (by kernel_rfl) (by kernel_rfl) (fun _ _ _ h => h) (Or.inl ⟨by rfl, ?_⟩) (by assumption) ?_; rotate_left; (focus (intro w hSw; (try dsimp only at hSw); go_simp; try with_reducible rfl)); (try simp only [Act.put, List.setIfInBounds_toArray, List.set_cons_zero, List.set_cons_succ]))
    first | (refine wpAnyH_take (i := 5) (oi := ⟨_, _, _, _, _, _⟩) rfl (by kernel_rfl) (by kernel_rfl) (by kernel_rfl) (fun _ _ _ h => h) (Or.inr ⟨by rfl, rfl⟩) (by assumption) ?_; (try simp only [Act.put, List.setIfInBounds_toArray, List.set_cons_zero, List.set_cons_succ])) | (refine wpAnyH_take (i := 5) (oi := ⟨_, _, _, _, _, _⟩) (v := ?_) rfl (by kernel_rfl) (by kernel_rfl) (by kernel_rfl) (fun _ _ _ h => h) (Or.inl ⟨by rfl, ?_⟩) (by assumption) ?_; rotate_left; (focus (intro w hSw; (try dsimp only at hSw); go_simp; try with_reducible rfl)); (try simp only [Act.put, List.setIfInBounds_toArray, List.set_cons_zero, List.set_cons_succ]))
    first | (refine wpAnyH_take (i := 6) (oi := ⟨_, _, _, _, _, _⟩) rfl (by kernel_rfl) (by kernel_rfl) (by kernel_rfl) (fun _ _ _ h => h) (Or.inr ⟨by rfl, rfl⟩) (by assumption) ?_; (try simp only [Act.put, List.setIfInBounds_toArray, List.set_cons_zero, List.set_cons_succ])) | (refine wpAnyH_take (i := 6) (oi := ⟨_, _, _, _, _, _⟩) (v := ?_) rfl (by kernel_rfl) (by kernel_rfl) (by kernel_rfl) (fun _ _ _ h => h) (Or.inl ⟨by rfl, ?_⟩) (by assumption) ?_; rotate_left; (focus (intro w hSw; (try dsimp only at hSw); have t2 := hSw.c2; have t4 := hSw.c4; go_simp; try with_reducible rfl)); (try simp only [Act.put, List.setIfInBounds_toArray, List.set_cons_zero, List.set_cons_succ]))
    first | (refine wpAnyH_take (i := 7) (oi := ⟨_, _, _, _, _, _⟩) rfl (by kernel_rfl) (by kernel_rfl) (by kernel_rfl) (fun _ _ _ h => h) (Or.inr ⟨by rfl, rfl⟩) (by assumption) ?_; (try simp only [Act.put, List.setIfInBounds_toArray, List.set_cons_zero, List.set_cons_succ])) | (refine wpAnyH_take (i := 7) (oi := ⟨_, _, _, _, _, _⟩) (v := ?_) rfl (by kernel_rfl) (by kernel_rfl) (by kernel_rfl) (fun _ _ _ h => h) (Or.inl ⟨by rfl, ?_⟩) (by assumption) ?_; rotate_left; (focus (intro w hSw; (try dsimp only at hSw); go_simp; try with_reducible rfl)); (try simp only [Act.put, List.setIfInBounds_toArray, List.set_cons_zero, List.set_cons_succ]))
    first | (refine wpAnyH_take (i := 8) (oi := ⟨_, _, _, _, _, _⟩) rfl (by kernel_rfl) (by kernel_rfl) (by kernel_rfl) (fun _ _ _ h => h) (Or.inr ⟨by rfl, rfl⟩) (by assumption) ?_; (try simp only [Act.put, List.setIfInBounds_toArray, List.set_cons_zero, List.set_cons_succ])) | (refine wpAnyH_take (i := 8) (oi := ⟨_, _, _, _, _, _⟩) (v := ?_) rfl (by kernel_rfl) (by kernel_rfl) (by kernel_rfl) (fun _ _ _ h => h) (Or.inl ⟨by rfl, ?_⟩) (by assumption) ?_; rotate_left; (focus (intro w hSw; (try dsimp only at hSw); go_simp; try with_reducible rfl)); (try simp only [Act.put, List.setIfInBounds_toArray, List.set_cons_zero, List.set_cons_succ]))
    first | (refine wpAnyH_take (i := 9) (oi := ⟨_, _, _, _, _, _⟩) rfl (by kernel_rfl) (by kernel_rfl) (by kernel_rfl) (fun _ _ _ h => h) (Or.inr ⟨by rfl, rfl⟩) (by assumption) ?_; (try simp only [Act.put, List.setIfInBounds_toArray, List.set_cons_zero, List.set_cons_succ])) | (refine wpAnyH_take (i := 9) (oi := ⟨_, _, _, _, _, _⟩) (v := ?_) rfl (by kernel_rfl) (by kernel_rfl) (by kernel_rfl) (fun _ _ _ h => h) (Or.inl ⟨by rfl, ?_⟩) (by assumption) ?_; rotate_left; (focus (intro w hSw; (try dsimp only at hSw); go_simp; try with_reducible rfl)); (try simp only [Act.put, List.setIfInBounds_toArray, List.set_cons_zero, List.set_cons_succ]))
    first | (refine wpAnyH_take (i := 10) (oi := ⟨_, _, _, _, _, _⟩) rfl (by kernel_rfl) (by kernel_rfl) (by kernel_rfl) (fun _ _ _ h => h) (Or.inr ⟨by rfl, rfl⟩) (by assumption) ?_; (try simp only [Act.put, List.setIfInBounds_toArray, List.set_cons_zero, List.set_cons_succ])) | (refine wpAnyH_take (i := 10) (oi := ⟨_, _, _, _, _, _⟩) (v := ?_) rfl (by kernel_rfl) (by kernel_rfl) (by kernel_rfl) (fun _ _ _ h => h) (Or.inl ⟨by rfl, ?_⟩) (by assumption) ?_; rotate_left; (focus (intro w hSw; (try dsimp only at hSw); have t2 := hSw.c2; have t4 := hSw.c4; go_simp; try with_reducible rfl)); (try simp only [Act.put, List.setIfInBounds_toArray, List.set_cons_zero, List.set_cons_succ]))
    refine wpAnyH_ready (rs := [11]) (by kernel_rfl) (by simp) ?_
    refine AllReadyH.cons (o := ⟨_, _, _, _, _, _⟩) rfl (fun K hK => ?_) AllReadyH.nil
    go_simp
    go_at_call 51; (with_reducible refine (KC.out _ ((OwnInts.at HI.out.list).below (Below.refl _ _).drew)).mono ?_); rintro e x1 ⟨a3, n3, c3, rfl, o3, d3⟩; have D3 := Lib.hid (bthen (Below.refl w.heap.size w).drew d3); have HO3 := Lib.hid o3; have HI3 := Lib.hid (HI.out.below D3.out); have hS' : SBox x1 B TB ln H (.slice la ln lc) (.func (.func 25) #[] #[.pointer (some ⟨OB, 0, none⟩)]) (takenB ln pre) := HI3.out.box; clear o3 d3
    refine hK.out _ _ (by exact hS') (fun hHeld' => ?_)
    clear hHeld hK K
    have hHeld := hHeld'
    clear hHeld'
    try simp only [Act.put, List.setIfInBounds_toArray, List.set_cons_zero, List.set_cons_succ]
    refine wpAnyH_ready (rs := [12]) (by kernel_rfl) (by simp) ?_
    refine AllReadyH.cons (o := ⟨_, _, _, _, _, _⟩) rfl (fun K hK => ?_) AllReadyH.nil
    go_simp; go_at_call 25; refine (found_c KB OB a3 n3 c3 fv ps pre x1 (own_mono HO3.out (by have h1 := HI.out.kB.1; have h2 := HI.out.box.lt; have h3 := D3.out.size; show KB ≤ w.drew.heap.size; exact Nat.le_trans h1 (Nat.le_of_lt h2))) Hok.out H10.out HI3.out.fs HI3.out.ob HI3.out.row (fun g hg => ⟨(HI3.out.far g hg).2.2.1, fun e => by have h1 := (HI.out.row.lt hg).2; have h2 := (HO3.out.lt g e).1; exact absurd h1 (Nat.not_lt.2 h2)⟩) (fun e => by have h1 := (HO3.out.lt OB e).1; exact absurd HI.out.ob.1 (Nat.not_lt.2 h1)) HI.out.kB.2.2 (by have := Hcnt.out; omega)).mono ?_; rintro e x2 hf; obtain ⟨fv', ps', hI4, hps4⟩ := found_inv HI.out D3.out HO3.out hf; have hbf := hf.2; obtain ⟨rfl, -⟩ := hf; obtain ⟨_, _, -, -, -, -, -, -, hbK⟩ := hbf; have HI4 := Lib.hid hI4; have HPs4 := Lib.hid hps4; have HBK := Lib.hid hbK; have hS' : SBox x2 B TB ln H (.slice la ln lc) (.func (.func 25) #[] #[.pointer (some ⟨OB, 0, none⟩)]) (takenB ln pre) := HI4.out.box; clear hI4 hps4 hbK
    refine hK.out _ _ (by exact hS') (fun hHeld' => ?_)
    clear hHeld hK K
    have hHeld := hHeld'
    clear hHeld'
    try simp only [Act.put, List.setIfInBounds_toArray, List.set_cons_zero, List.set_cons_succ]
    refine wpAnyH_take (i := 13) (oi := ⟨_, _, _, _, _, _⟩) (v := ?_) rfl (by kernel_rfl) (by kernel_rfl) (by kernel_rfl) (fun _ _ _ h => h) (Or.inl ⟨by rfl, ?_⟩) (by assumption) ?_; rotate_left; (focus (intro w hSw; (try dsimp only at hSw); go_simp; try with_reducible rfl)); (try simp only [Act.put, List.setIfInBounds_toArray, List.set_cons_zero, List.set_cons_succ])
    refine wpAnyH_take (i := 14) (oi := ⟨_, _, _, _, _, _⟩) (v := ?_) rfl (by kernel_rfl) (by kernel_rfl) (by kernel_rfl) (fun _ _ _ h => h) (Or.inl ⟨by rfl, ?_⟩) (by assumption) ?_; rotate_left; (focus (intro w hSw; (try dsimp only at hSw); go_simp; try with_reducible rfl)); (try simp only [Act.put, List.setIfInBounds_toArray, List.set_cons_zero, List.set_cons_succ])
    refine wpAnyH_done (by kernel_rfl) ?_ _
    have HBe : Hid (Below KB w x2) := Lib.hid ((D3.out.mono (by have h1 := HI.out.kB.1; have h2 := HI.out.box.lt; omega)).trans HBK.out)
    clear hHeld HI3 HO3 D3 HBK HI
    go_wp2
    go_ret
    exact ⟨rfl, _, fv', ps', HI4.out, by rw [HPs4.out, HE.out], HBe.out⟩
  · have HE : Hid (eachF H ln 0 pre left = []) := Lib.hid (by unfold eachF; rw [if_neg h0])
    have hneq : ((left : Int) != 0) = true := by simp; omega
    generalize eachF H ln 0 pre left = E at *
    clear h0
    go_enter Try.func35, Try.ntmps35
    go_wp2
    refine wp_region_held_drew (S := fun w' => Below w.heap.size w w') (by kernel_rfl) (by exact ((Below.refl w.heap.size w)).drew) (fun hHeld => ?_)
    refine wpAnyH_take (i := 0) (oi := ⟨_, _, _, _, _, _⟩) (v := ?_) rfl (by kernel_rfl) (by kernel_rfl) (by kernel_rfl) (fun _ _ _ h => h) (Or.inl ⟨by rfl, ?_⟩) (by assumption) ?_; rotate_left; (focus (intro w hSw; (try dsimp only at hSw); go_simp; try with_reducible rfl)); (try simp only [Act.put, List.setIfInBounds_toArray, List.set_cons_zero, List.set_cons_succ])
    refine wpAnyH_take (i := 1) (oi := ⟨_, _, _, _, _, _⟩) (v := ?_) rfl (by kernel_rfl) (by kernel_rfl) (by kernel_rfl) (fun _ _ _ h => h) (Or.inl ⟨by rfl, ?_⟩) (by assumption) ?_; rotate_left; (focus (intro w hSw; (try dsimp only at hSw); go_simp; try with_reducible rfl)); (try simp only [Act.put, List.setIfInBounds_toArray, List.set_cons_zero, List.set_cons_succ])
    refine wpAnyH_take (i := 2) (oi := ⟨_, _, _, _, _, _⟩) (v := ?_) rfl (by kernel_rfl) (by kernel_rfl) (by kernel_rfl) (fun _ _ _ h => h) (Or.inl ⟨by rfl, ?_⟩) (by assumption) ?_; rotate_left; (focus (intro w hSw; (try dsimp only at hSw); go_simp; try with_reducible rfl)); (try simp only [Act.put, List.setIfInBounds_toArray, List.set_cons_zero, List.set_cons_succ])
    first | (refine wpAnyH_take (i := 3) (oi := ⟨_, _, _, _, _, _⟩) rfl (by kernel_rfl) (by kernel_rfl) (by kernel_rfl) (fun _ _ _ h => h) (Or.inr ⟨by rfl, rfl⟩) (by assumption) ?_; (try simp only [Act.put, List.setIfInBounds_toArray, List.set_cons_zero, List.set_cons_succ])) | (refine wpAnyH_take (i := 3) (oi := ⟨_, _, _, _, _, _⟩) (v := ?_) rfl (by kernel_rfl) (by kernel_rfl) (by kernel_rfl) (fun _ _ _ h => h) (Or.inl ⟨by rfl, ?_⟩) (by assumption) ?_; rotate_left; (focus (intro w hSw; (try dsimp only at hSw); go_simp; try with_reducible rfl)); (try simp only [Act.put, List.setIfInBounds_toArray, List.set_cons_zero, List.set_cons_succ]))
    first | (refine wpAnyH_take (i := 4) (oi := ⟨_, _, _, _, _, _⟩) rfl (by kernel_rfl) (by kernel_rfl) (by kernel_rfl) (fun _ _ _ h => h) (Or.inr ⟨by rfl, rfl⟩) (by assumption) ?_; (try simp only [Act.put, List.setIfInBounds_toArray, List.set_cons_zero, List.set_cons_succ])) | (refine wpAnyH_take (i := 4) (oi := ⟨_, _, _, _, _, _⟩) (v := ?_) rfl (by kernel_rfl) (by kernel_rfl) (by kernel_rfl) (fun _ _ _ h => h) (Or.inl ⟨by rfl, ?_⟩) (by assumption) ?_; rotate_left; (focus (intro w hSw; (try dsimp only at hSw); go_simp; try with_reducible rfl)); (try simp only [Act.put, List.setIfInBounds_toArray, List.set_cons_zero, List.set_cons_succ]))
    first | (refine wpAnyH_take (i := 5) (oi := ⟨_, _, _, _, _, _⟩) rfl (by kernel_rfl) (by kernel_rfl) (by kernel_rfl) (fun _ _ _ h => h) (Or.inr ⟨by rfl, rfl⟩) (by assumption) ?_; (try simp only [Act.put, List.setIfInBounds_toArray, List.set_cons_zero, List.set_cons_succ])) | (refine wpAnyH_take (i := 5) (oi := ⟨_, _, _, _, _, _⟩) (v := ?_) rfl (by kernel_rfl) (by kernel_rfl) (by kernel_rfl) (fun _ _ _ h => h) (Or.inl ⟨by rfl, ?_⟩) (by assumption) ?_; rotate_left; (focus (intro w hSw; (try dsimp only at hSw); go_simp; try with_reducible rfl)); (try simp only [Act.put, List.setIfInBounds_toArray, List.set_cons_zero, List.set_cons_succ]))
    first | (refine wpAnyH_take (i := 6) (oi := ⟨_, _, _, _, _, _⟩) rfl (by kernel_rfl) (by kernel_rfl) (by kernel_rfl) (fun _ _ _ h => h) (Or.inr ⟨by rfl, rfl⟩) (by assumption) ?_; (try simp only [Act.put, List.setIfInBounds_toArray, List.set_cons_zero, List.set_cons_succ])) | (refine wpAnyH_take (i := 6) (oi := ⟨_, _, _, _, _, _⟩) (v := ?_) rfl (by kernel_rfl) (by kernel_rfl) (by kernel_rfl) (fun _ _ _ h => h) (Or.inl ⟨by rfl, ?_⟩) (by assumption) ?_; rotate_left; (focus (intro w hSw; (try dsimp only at hSw); go_simp; try with_reducible rfl)); (try simp only [Act.put, List.setIfInBounds_toArray, List.set_cons_zero, List.set_cons_succ]))
    first | (refine wpAnyH_take (i := 7) (oi := ⟨_, _, _, _, _, _⟩) rfl (by kernel_rfl) (by kernel_rfl) (by kernel_rfl) (fun _ _ _ h => h) (Or.inr ⟨by rfl, rfl⟩) (by assumption) ?_; (try simp only [Act.put, List.setIfInBounds_toArray, List.set_cons_zero, List.set_cons_succ])) | (refine wpAnyH_take (i := 7) (oi := ⟨_, _, _, _, _, _⟩) (v := ?_) rfl (by kernel_rfl) (by kernel_rfl) (by kernel_rfl) (fun _ _ _ h => h) (Or.inl ⟨by rfl, ?_⟩) (by assumption) ?_; rotate_left; (focus (intro w hSw; (try dsimp only at hSw); go_simp; try with_reducible rfl)); (try simp only [Act.put, List.setIfInBounds_toArray, List.set_cons_zero, List.set_cons_succ]))
    first | (refine wpAnyH_take (i := 8) (oi := ⟨_, _, _, _, _, _⟩) rfl (by kernel_rfl) (by kernel_rfl) (by kernel_rfl) (fun _ _ _ h => h) (Or.inr ⟨by rfl, rfl⟩) (by assumption) ?_; (try simp only [Act.put, List.setIfInBounds_toArray, List.set_cons_zero, List.set_cons_succ])) | (refine wpAnyH_take (i := 8) (oi := ⟨_, _, _, _, _, _⟩) (v := ?_) rfl (by kernel_rfl) (by kernel_rfl) (by kernel_rfl) (fun _ _ _ h => h) (Or.inl ⟨by rfl, ?_⟩) (by assumption) ?_; rotate_left; (focus (intro w hSw; (try dsimp only at hSw); go_simp; try with_reducible rfl)); (try simp only [Act.put, List.setIfInBounds_toArray, List.set_cons_zero, List.set_cons_succ]))
    first | (refine wpAnyH_take (i := 9) (oi := ⟨_, _, _, _, _, _⟩) rfl (by kernel_rfl) (by kernel_rfl) (by kernel_rfl) (fun _ _ _ h => h) (Or.inr ⟨by rfl, rfl⟩) (by assumption) ?_; (try simp only [Act.put, List.setIfInBounds_toArray, List.set_cons_zero, List.set_cons_succ])) | (refine wpAnyH_take (i := 9) (oi := ⟨_, _, _, _, _, _⟩) (v := ?_) rfl (by kernel_rfl) (by kernel_rfl) (by kernel_rfl) (fun _ _ _ h => h) (Or.inl ⟨by rfl, ?_⟩) (by assumption) ?_; rotate_left; (focus (intro w hSw; (try dsimp only at hSw); go_simp; try with_reducible rfl)); (try simp only [Act.put, List.setIfInBounds_toArray, List.set_cons_zero, List.set_cons_succ]))
    first | (refine wpAnyH_take (i := 10) (oi := ⟨_, _, _, _, _, _⟩) rfl (by kernel_rfl) (by kernel_rfl) (by kernel_rfl) (fun _ _ _ h => h) (Or.inr ⟨by rfl, rfl⟩) (by assumption) ?_; (try simp only [Act.put, List.setIfInBounds_toArray, List.set_cons_zero, List.set_cons_succ])) | (refine wpAnyH_take (i := 10) (oi := ⟨_, _, _, _, _, _⟩) (v := ?_) rfl (by kernel_rfl) (by kernel_rfl) (by kernel_rfl) (fun _ _ _ h => h) (Or.inl ⟨by rfl, ?_⟩) (by assumption) ?_; rotate_left; (focus (intro w hSw; (try dsimp only at hSw); go_simp; try with_reducible rfl)); (try simp only [Act.put, List.setIfInBounds_toArray, List.set_cons_zero, List.set_cons_succ]))
    (refine wpAnyH_take (i := 11) (oi := ⟨_, _, _, _, _, _⟩) rfl (by kernel_rfl) (by kernel_rfl) (by kernel_rfl) (fun _ _ _ h => h) (Or.inr ⟨by rfl, rfl⟩) (by assumption) ?_; (try simp only [Act.put, List.setIfInBounds_toArray, List.set_cons_zero, List.set_cons_succ]))
    (refine wpAnyH_take (i := 12) (oi := ⟨_, _, _, _, _, _⟩) rfl (by kernel_rfl) (by kernel_rfl) (by kernel_rfl) (fun _ _ _ h => h) (Or.inr ⟨by rfl, rfl⟩) (by assumption) ?_; (try simp only [Act.put, List.setIfInBounds_toArray, List.set_cons_zero, List.set_cons_succ]))
    refine wpAnyH_take (i := 13) (oi := ⟨_, _, _, _, _, _⟩) (v := ?_) rfl (by kernel_rfl) (by kernel_rfl) (by kernel_rfl) (fun _ _ _ h => h) (Or.inl ⟨by rfl, ?_⟩) (by assumption) ?_; rotate_left; (focus (intro w hSw; (try dsimp only at hSw); go_simp; try with_reducible rfl)); (try simp only [Act.put, List.setIfInBounds_toArray, List.set_cons_zero, List.set_cons_succ])
    refine wpAnyH_take (i := 14) (oi := ⟨_, _, _, _, _, _⟩) (v := ?_) rfl (by kernel_rfl) (by kernel_rfl) (by kernel_rfl) (fun _ _ _ h => h) (Or.inl ⟨by rfl, ?_⟩) (by assumption) ?_; rotate_left; (focus (intro w hSw; (try dsimp only at hSw); go_simp; try with_reducible rfl)); (try simp only [Act.put, List.setIfInBounds_toArray, List.set_cons_zero, List.set_cons_succ])
    refine wpAnyH_done (by kernel_rfl) ?_ _
    have hw : Below w.heap.size w w.drew := (Below.refl _ _).drew
    have HI4 := Lib.hid (HI.out.below hw)
    have HBe : Hid (Below KB w w.drew) := Lib.hid (hw.mono (by have h1 := HI.out.kB.1; have h2 := HI.out.box.lt; omega))
    go_wp2
    go_ret
    exact ⟨rfl, _, fv, ps, HI4.out, by rw [HE.out]; simp, HBe.out⟩
set_option maxRecDepth 100000 in
set_option maxHeartbeats 8000000 in
theorem step_loop (KB B TB OB P H d : Nat) (hP1 : 1 ≤ P) (hP : P ≤ 6) (hH : H ≤ 7) (ih : StepSpec KB B TB OB P H d) : StepSpec KB B TB OB P H (d + 1) := by
  intro pre left w lv fv ps hd hin hnd hleft hI hcnt
  have IH := Lib.hid ih
  clear ih
  obtain ⟨la, ln, lc, rfl⟩ := hI.ls
  have hlen : ln = pre.length := by obtain ⟨_, _, e⟩ := slice_of_own hI.list; injection e
  have hdl : ln + (d + 1) = P := by omega
  have HI := Lib.hid hI
  have c0 := hI.box.c0; have c1 := hI.box.c1; have c2 := hI.box.c2
  have hBl := hI.box.lt
  have hKB : KB ≤ w.heap.size := by have := hI.kB.1; omega
  have Hlen := Lib.hid hlen
  have Hin := Lib.hid hin
  have Hnd := Lib.hid hnd
  have Hcnt := Lib.hid hcnt
  have hne : ((ln : Int) == (P : Int)) = false := beq_eq_false_iff_ne.2 (by omega)
  have hneI : ¬ (ln : Int) = (P : Int) := by omega
  obtain ⟨Lo, hLo⟩ : ∃ Lo : Nat, left - d * H = Lo := ⟨_, rfl⟩
  obtain ⟨Hi, hHi⟩ : ∃ Hi : Nat, min H left = Hi := ⟨_, rfl⟩
  have HE : Hid (eachF H P (d + 1) pre left = (List.range' Lo (Hi + 1 - Lo)).flatMap fun t => if (pre.length + t) % P ∈ lndN P pre then [] else eachF H P d (pre ++ [(t : Int)]) (left - t)) := Lib.hid (by rw [← hLo, ← hHi]; rfl)
  have hX : d * H ≤ 42 := Nat.le_trans (Nat.mul_le_mul (show d ≤ 6 by omega) hH) (by decide)
  obtain ⟨X, hXe⟩ : ∃ X : Nat, d * H = X := ⟨_, rfl⟩
  rw [hXe] at hLo hX
  have hwP : IntKind.i64.wrap ((P : Int) - 1) = (P : Int) - 1 := IntWalk.i64_in _ (by omega)
  have hwd : IntKind.i64.wrap ((P : Int) - 1 - (ln : Int)) = (d : Int) := by rw [IntWalk.i64_in _ (by omega)]; omega
  have hwd2 : (P : Int) - 1 - (ln : Int) = (d : Int) := by omega
  have hwm2 : (d : Int) * (H : Int) = (X : Int) := by rw [← hXe]; simp
  have hwX : IntKind.i64.wrap (X : Int) = (X : Int) := IntWalk.i64_in _ (by omega)
  have hws : IntKind.i64.wrap ((left : Int) - (X : Int)) = (left : Int) - (X : Int) := IntWalk.i64_in _ (by omega)
  have hwdd : IntKind.i64.wrap (d : Int) = (d : Int) := IntWalk.i64_in _ (by omega)
  have hlo : (if (left : Int) - (X : Int) < 0 then (0 : Int) else (left : Int) - (X : Int)) = (Lo : Int) := by split <;> omega
  clear hI hin hnd hcnt hd hlen hXe
  go_enter Try.func35, Try.ntmps35
  go_wp2
  refine wp_region_held_drew (S := fun w' => Below w.heap.size w w') (by kernel_rfl) (by exact ((Below.refl w.heap.size w)).drew) (fun hHeld => ?_)
  refine wpAnyH_take (i := 0) (oi := ⟨_, _, _, _, _, _⟩) (v := ?_) rfl (by kernel_rfl) (by kernel_rfl) (by kernel_rfl) (fun _ _ _ h => h) (Or.inl ⟨by rfl, ?_⟩) (by assumption) ?_; rotate_left; (focus (intro w hSw; (try dsimp only at hSw); go_simp; try with_reducible rfl)); (try simp only [Act.put, List.setIfInBounds_toArray, List.set_cons_zero, List.set_cons_succ])
  refine wpAnyH_take (i := 1) (oi := ⟨_, _, _, _, _, _⟩) (v := ?_) rfl (by kernel_rfl) (by kernel_rfl) (by kernel_rfl) (fun _ _ _ h => h) (Or.inl ⟨by rfl, ?_⟩) (by assumption) ?_; rotate_left; (focus (intro w hSw; (try dsimp only at hSw); go_simp; try with_reducible rfl)); (try simp only [Act.put, List.setIfInBounds_toArray, List.set_cons_zero, List.set_cons_succ])
  refine wpAnyH_take (i := 2) (oi := ⟨_, _, _, _, _, _⟩) (v := ?_) rfl (by kernel_rfl) (by kernel_rfl) (by kernel_rfl) (fun _ _ _ h => h) (Or.inl ⟨by rfl, ?_⟩) (by assumption) ?_; rotate_left; (focus (intro w hSw; (try dsimp only at hSw); go_simp; try with_reducible rfl)); (try simp only [Act.put, List.setIfInBounds_toArray, List.set_cons_zero, List.set_cons_succ])
  refine wpAnyH_take (i := 3) (oi := ⟨_, _, _, _, _, _⟩) (v := ?_) rfl (by kernel_rfl) (by kernel_rfl) (by kernel_rfl) (fun _ _ _ h => h) (Or.inl ⟨by rfl, ?_⟩) (by assumption) ?_; rotate_left; (focus (intro w hSw; (try dsimp only at hSw); go_simp; try with_reducible rfl)); (try simp only [Act.put, List.setIfInBounds_toArray, List.set_cons_zero, List.set_cons_succ])
  refine wpAnyH_take (i := 4) (oi := ⟨_, _, _, _, _, _⟩) (v := ?_) rfl (by kernel_rfl) (by kernel_rfl) (by kernel_rfl) (fun _ _ _ h => h) (Or.inl ⟨by rfl, ?_⟩) (by assumption) ?_; rotate_left; (focus (intro w hSw; (try dsimp only at hSw); have t0 := cell_then hBl c0 hSw; have t1 := cell_then hBl c1 hSw; go_simp; try with_reducible rfl)); (try simp only [Act.put, List.setIfInBounds_toArray, List.set_cons_zero, List.set_cons_succ])
  refine wpAnyH_take (i := 5) (oi := ⟨_, _, _, _, _, _⟩) (v := ?_) rfl (by kernel_rfl) (by kernel_rfl) (by kernel_rfl) (fun _ _ _ h => h) (Or.inl ⟨by rfl, ?_⟩) (by assumption) ?_; rotate_left; (focus (intro w hSw; (try dsimp only at hSw); go_simp; try with_reducible rfl)); (try simp only [Act.put, List.setIfInBounds_toArray, List.set_cons_zero, List.set_cons_succ])
  refine wpAnyH_take (i := 6) (oi := ⟨_, _, _, _, _, _⟩) (v := ?_) rfl (by kernel_rfl) (by kernel_rfl) (by kernel_rfl) (fun _ _ _ h => h) (Or.inl ⟨by rfl, ?_⟩) (by assumption) ?_; rotate_left; (focus (intro w hSw; (try dsimp only at hSw); go_simp; try with_reducible rfl)); (try simp only [Act.put, List.setIfInBounds_toArray, List.set_cons_zero, List.set_cons_succ])
  refine wpAnyH_take (i := 7) (oi := ⟨_, _, _, _, _, _⟩) (v := ?_) rfl (by kernel_rfl) (by kernel_rfl) (by kernel_rfl) (fun _ _ _ h => h) (Or.inl ⟨by rfl, ?_⟩) (by assumption) ?_; rotate_left; (focus (intro w hSw; (try dsimp only at hSw); go_simp; try with_reducible rfl)); (try simp only [Act.put, List.setIfInBounds_toArray, List.set_cons_zero, List.set_cons_succ])
  refine wpAnyH_take (i := 8) (oi := ⟨_, _, _, _, _, _⟩) (v := ?_) rfl (by kernel_rfl) (by kernel_rfl) (by kernel_rfl) (fun _ _ _ h => h) (Or.inl ⟨by rfl, ?_⟩) (by assumption) ?_; rotate_left; (focus (intro w hSw; (try dsimp only at hSw); go_simp; try with_reducible rfl)); (try simp only [Act.put, List.setIfInBounds_toArray, List.set_cons_zero, List.set_cons_succ])
  refine wpAnyH_take (i := 9) (oi := ⟨_, _, _, _, _, _⟩) (v := ?_) rfl (by kernel_rfl) (by kernel_rfl) (by kernel_rfl) (fun _ _ _ h => h) (Or.inl ⟨by rfl, ?_⟩) (by assumption) ?_; rotate_left; (focus (intro w hSw; (try dsimp only at hSw); go_simp; try with_reducible rfl)); (try simp only [Act.put, List.setIfInBounds_toArray, List.set_cons_zero, List.set_cons_succ])
  refine wpAnyH_take (i := 10) (oi := ⟨_, _, _, _, _, _⟩) (v := ?_) rfl (by kernel_rfl) (by kernel_rfl) (by kernel_rfl) (fun _ _ _ h => h) (Or.inl ⟨by rfl, ?_⟩) (by assumption) ?_; rotate_left; (focus (intro w hSw; (try dsimp only at hSw); go_simp; try with_reducible rfl)); (try simp only [Act.put, List.setIfInBounds_toArray, List.set_cons_zero, List.set_cons_succ])
  refine wpAnyH_take (i := 11) (oi := ⟨_, _, _, _, _, _⟩) (v := ?_) rfl (by kernel_rfl) (by kernel_rfl) (by kernel_rfl) (fun _ _ _ h => h) (Or.inl ⟨by rfl, ?_⟩) (by assumption) ?_; rotate_left; (focus (intro w hSw; (try dsimp only at hSw); have t0 := cell_then hBl c0 hSw; have t1 := cell_then hBl c1 hSw; go_simp; try with_reducible rfl)); (try simp only [Act.put, List.setIfInBounds_toArray, List.set_cons_zero, List.set_cons_succ])
  refine wpAnyH_take (i := 12) (oi := ⟨_, _, _, _, _, _⟩) (v := ?_) rfl (by kernel_rfl) (by kernel_rfl) (by kernel_rfl) (fun _ _ _ h => h) (Or.inl ⟨by rfl, ?_⟩) (by assumption) ?_; rotate_left; (focus (intro w hSw; (try dsimp only at hSw); go_simp; try with_reducible rfl)); (try simp only [Act.put, List.setIfInBounds_toArray, List.set_cons_zero, List.set_cons_succ])
  refine wpAnyH_take (i := 13) (oi := ⟨_, _, _, _, _, _⟩) (v := ?_) rfl (by kernel_rfl) (by kernel_rfl) (by kernel_rfl) (fun _ _ _ h => h) (Or.inl ⟨by rfl, ?_⟩) (by assumption) ?_; rotate_left; (focus (intro w hSw; (try dsimp only at hSw); go_simp; try with_reducible rfl)); (try simp only [Act.put, List.setIfInBounds_toArray, List.set_cons_zero, List.set_cons_succ])
  refine wpAnyH_take (i := 14) (oi := ⟨_, _, _, _, _, _⟩) (v := ?_) rfl (by kernel_rfl) (by kernel_rfl) (by kernel_rfl) (fun _ _ _ h => h) (Or.inl ⟨by rfl, ?_⟩) (by assumption) ?_; rotate_left; (focus (intro w hSw; (try dsimp only at hSw); have t0 := cell_then hBl c0 hSw; have t1 := cell_then hBl c1 hSw; go_simp; try with_reducible rfl)); (try simp only [Act.put, List.setIfInBounds_toArray, List.set_cons_zero, List.set_cons_succ])
  refine wpAnyH_take (i := 15) (oi := ⟨_, _, _, _, _, _⟩) (v := ?_) rfl (by kernel_rfl) (by kernel_rfl) (by kernel_rfl) (fun _ _ _ h => h) (Or.inl ⟨by rfl, ?_⟩) (by assumption) ?_; rotate_left; (focus (intro w hSw; (try dsimp only at hSw); go_simp; try with_reducible rfl)); (try simp only [Act.put, List.setIfInBounds_toArray, List.set_cons_zero, List.set_cons_succ])
  refine wpAnyH_done (by kernel_rfl) ?_ _
  have HI0 := Lib.hid (HI.out.below hHeld)
  have hb0 : Below KB w w.drew := hHeld.mono hKB
  have hl8 : (Hi + 1 - Lo) * 8 ^ d ≤ 8 * 8 ^ d := Nat.mul_le_mul_right _ (by omega)
  have HC0 : Hid (ps.length + (Hi + 1 - Lo) * 8 ^ d ≤ 1000000) := Lib.hid (by have h1 := Hcnt.out; rw [Nat.pow_succ] at h1; omega)
  obtain ⟨FF, hFF⟩ : ∃ FF : Nat → List (List Int), (fun t => if (pre.length + t) % P ∈ lndN P pre then [] else eachF H P d (pre ++ [(t : Int)]) (left - t)) = FF := ⟨_, rfl⟩
  rw [hFF] at HE
  have HFF : Hid (∀ t, FF t = if takenB P pre ((pre.length + t) % P) = true then [] else eachF H P d (pre ++ [(t : Int)]) (left - t)) := Lib.hid (fun t => by
    rw [← hFF]
    unfold takenB
    dsimp only
    by_cases h : (pre.length + t) % P ∈ lndN P pre
    · rw [if_pos h, decide_eq_true h, if_pos rfl]
    · rw [if_neg h, decide_eq_false h, if_neg (by decide)])
  obtain ⟨FIN, hFIN⟩ : ∃ FIN : List (List Int), ps.map (·.2) ++ (eachF H P (d + 1) pre left).filter implT = FIN := ⟨_, rfl⟩
  have HFin := Lib.hid hFIN
  have HR0 : Hid (FIN = ps.map (·.2) ++ ((List.range' Lo (Hi + 1 - Lo)).flatMap FF).filter implT) := Lib.hid (by rw [← hFIN, HE.out])
  generalize eachF H P (d + 1) pre left = EE at *
  have hHiH : Hi ≤ H := by omega
  have hHil : Hi ≤ left := by omega
  have hhi : (if left < H then (left : Int) else (H : Int)) = (Hi : Int) := by split <;> omega
  have hLo200 : Lo ≤ 200 := by omega
  clear hFF HE hFIN hl8 hHeld HI c0 c1 c2 hwP hwd hwd2 hwm2 hwX hws hlo hwdd hLo Hcnt hne hneI hX
  go_wp2
  go_loopw [6] (fun tv wr => ∃ (t : Nat) (lv' fv' : Value) (ps' : List (Value × List Int)), tv = .int .i64 t ∧ t ≤ 200 ∧ Hid (SInv wr KB B TB OB P H lv' (.func (.func 25) #[] #[.pointer (some ⟨OB, 0, none⟩)]) fv' ps' pre (takenB P pre)) ∧ Hid (FIN = ps'.map (·.2) ++ ((List.range' t (Hi + 1 - t)).flatMap FF).filter implT) ∧ Hid (ps'.length + (Hi + 1 - t) * 8 ^ d ≤ 1000000) ∧ Below KB w wr) (fun tv _ => H + 1 - (intOf tv).toNat)
  case atStart => exact ⟨Lo, _, fv, ps, rfl, hLo200, HI0, HR0, HC0, hb0⟩
  case round =>
    clear HI0 HR0 HC0 hb0
    obtain ⟨k, lv', fv', ps', rfl, hk200, HI, HR, HC, hb⟩ := hrel
    obtain ⟨la', ln', lc', rfl⟩ := HI.out.ls
    have hlen' : ln' = ln := by obtain ⟨_, _, e⟩ := slice_of_own HI.out.list; injection e with _ e; rw [e, Hlen.out]
    subst hlen'
    have c0 := HI.out.box.c0; have c1 := HI.out.box.c1; have c3 := HI.out.box.c3
    by_cases hkH : k ≤ Hi
    · have hkI : (k : Int) ≤ (Hi : Int) := by omega
      obtain ⟨r, hr⟩ : ∃ r : Nat, (ln' + k) % P = r := ⟨_, rfl⟩
      have hrlt : r < P := by rw [← hr]; exact Nat.mod_lt _ (by omega)
      have hr' : ((ln' : Int) + (k : Int)) % (P : Int) = (r : Int) := by rw [← hr]; simp
      have hrt : ((ln' : Int) + (k : Int)).tmod (P : Int) = (r : Int) := by rw [Int.tmod_eq_emod_of_nonneg (by omega)]; exact hr'
      have hwr : IntKind.i64.wrap (r : Int) = (r : Int) := IntWalk.i64_in _ (by omega)
      have hn0 : ((P : Int) == 0) = false := beq_eq_false_iff_ne.2 (by omega)
      have hrI : (r : Int) < (P : Int) := by omega
      have ct := HI.out.box.ct r hrlt
      have HRr : Hid (r = (pre.length + k) % P) := Lib.hid (by rw [← hr, Hlen.out])
      have HFk : Hid (FF k = if takenB P pre r = true then [] else eachF H P d (pre ++ [(k : Int)]) (left - k)) := Lib.hid (by rw [HFF.out k, ← HRr.out])
      have HS : Hid (FIN = ps'.map (·.2) ++ (FF k).filter implT ++ ((List.range' (k + 1) (Hi + 1 - (k + 1))).flatMap FF).filter implT) := Lib.hid (by rw [HR.out, flat_step FF hkH, List.filter_append, List.append_assoc])
      have hmul : (Hi + 1 - k) * 8 ^ d = 8 ^ d + (Hi + 1 - (k + 1)) * 8 ^ d := by
        rw [show Hi + 1 - k = (Hi + 1 - (k + 1)) + 1 by omega, Nat.succ_mul, Nat.add_comm]
      have HC1 : Hid (ps'.length + 8 ^ d ≤ 1000000) := Lib.hid (by have := HC.out; omega)
      have HC2 : Hid (ps'.length + 8 ^ d + (Hi + 1 - (k + 1)) * 8 ^ d ≤ 1000000) := Lib.hid (by have := HC.out; omega)
      clear hr HR HC hmul
      generalize htk : takenB P pre r = tk at *
      have HTK := Lib.hid htk; clear htk
      cases tk
      · have HQ : Hid (FF k = eachF H P d (pre ++ [(k : Int)]) (left - k)) := Lib.hid (by rw [HFk.out]; rfl)
        have hsz := HI.out.box.lt
        go_wp2
        refine wp_region_dep (S := fun L w' => Till 14 (fun w' => SBox w' B TB P H (.slice la' ln' lc') (.func (.func 25) #[] #[.pointer (some ⟨OB, 0, none⟩)]) (takenB P pre)) L w' ∧ Till 17 (fun w' => ∃ t', SBox w' B TB P H (.slice la' ln' lc') (.func (.func 25) #[] #[.pointer (some ⟨OB, 0, none⟩)]) t') L w') (by kernel_rfl) (by exact ⟨fun _ => HI.out.box.below (Below.refl _ _).drew, fun _ => ⟨_, HI.out.box.below (Below.refl _ _).drew⟩⟩) (fun hHeld => ?_)
        refine wpAnyD_take (i := 0) (oi := ⟨_, _, _, _, _, _⟩) (v := ?_) rfl (by kernel_rfl) (by kernel_rfl) (by kernel_rfl) (fun _ _ _ h => h) (by intro L w'; (try dsimp only); repeat (first | exact Iff.rfl | exact Till.ins (by decide) _ _ _ | refine and_congr ?_ ?_)) [] (by kernel_rfl) (by kernel_rfl) (Or.inl ⟨by rfl, ?_⟩) (by assumption) (fun hHeld' => ?_); rotate_left; (focus (intro w _; go_simp; try with_reducible rfl)); clear hHeld; have hHeld := hHeld'; clear hHeld'; (try simp only [Act.put, List.setIfInBounds_toArray, List.set_cons_zero, List.set_cons_succ])
        refine wpAnyD_take (i := 1) (oi := ⟨_, _, _, _, _, _⟩) (v := ?_) rfl (by kernel_rfl) (by kernel_rfl) (by kernel_rfl) (fun _ _ _ h => h) (by intro L w'; (try dsimp only); repeat (first | exact Iff.rfl | exact Till.ins (by decide) _ _ _ | refine and_congr ?_ ?_)) [] (by kernel_rfl) (by kernel_rfl) (Or.inl ⟨by rfl, ?_⟩) (by assumption) (fun hHeld' => ?_); rotate_left; (focus (intro w _; go_simp; try with_reducible rfl)); clear hHeld; have hHeld := hHeld'; clear hHeld'; (try simp only [Act.put, List.setIfInBounds_toArray, List.set_cons_zero, List.set_cons_succ])
        refine wpAnyD_take (i := 2) (oi := ⟨_, _, _, _, _, _⟩) (v := ?_) rfl (by kernel_rfl) (by kernel_rfl) (by kernel_rfl) (fun _ _ _ h => h) (by intro L w'; (try dsimp only); repeat (first | exact Iff.rfl | exact Till.ins (by decide) _ _ _ | refine and_congr ?_ ?_)) [] (by kernel_rfl) (by kernel_rfl) (Or.inl ⟨by rfl, ?_⟩) (by assumption) (fun hHeld' => ?_); rotate_left; (focus (intro w _; go_simp; try with_reducible rfl)); clear hHeld; have hHeld := hHeld'; clear hHeld'; (try simp only [Act.put, List.setIfInBounds_toArray, List.set_cons_zero, List.set_cons_succ])
        refine wpAnyD_take (i := 3) (oi := ⟨_, _, _, _, _, _⟩) (v := ?_) rfl (by kernel_rfl) (by kernel_rfl) (by kernel_rfl) (fun _ _ _ h => h) (by intro L w'; (try dsimp only); repeat (first | exact Iff.rfl | exact Till.ins (by decide) _ _ _ | refine and_congr ?_ ?_)) [13, 14, 15, 16, 17] (by kernel_rfl) (by kernel_rfl) (Or.inl ⟨by rfl, ?_⟩) (by assumption) (fun hHeld' => ?_); rotate_left; (focus (intro w hSw0; obtain ⟨L, ho, hSw⟩ := hSw0; (try dsimp only at hSw); obtain ⟨t', HH⟩ := Till.of hSw.2 ho rfl; have t2 := HH.c2; have t3 := HH.c3; clear HH; clear ho hSw; go_simp; try with_reducible rfl)); clear hHeld; have hHeld := hHeld'; clear hHeld'; (try simp only [Act.put, List.setIfInBounds_toArray, List.set_cons_zero, List.set_cons_succ])
        refine wpAnyD_take (i := 4) (oi := ⟨_, _, _, _, _, _⟩) (v := ?_) rfl (by kernel_rfl) (by kernel_rfl) (by kernel_rfl) (fun _ _ _ h => h) (by intro L w'; (try dsimp only); repeat (first | exact Iff.rfl | exact Till.ins (by decide) _ _ _ | refine and_congr ?_ ?_)) [] (by kernel_rfl) (by kernel_rfl) (Or.inl ⟨by rfl, ?_⟩) (by assumption) (fun hHeld' => ?_); rotate_left; (focus (intro w _; go_simp; try with_reducible rfl)); clear hHeld; have hHeld := hHeld'; clear hHeld'; (try simp only [Act.put, List.setIfInBounds_toArray, List.set_cons_zero, List.set_cons_succ])
        refine wpAnyD_take (i := 5) (oi := ⟨_, _, _, _, _, _⟩) (v := ?_) rfl (by kernel_rfl) (by kernel_rfl) (by kernel_rfl) (fun _ _ _ h => h) (by intro L w'; (try dsimp only); repeat (first | exact Iff.rfl | exact Till.ins (by decide) _ _ _ | refine and_congr ?_ ?_)) [] (by kernel_rfl) (by kernel_rfl) (Or.inl ⟨by rfl, ?_⟩) (by assumption) (fun hHeld' => ?_); rotate_left; (focus (intro w _; go_simp; try with_reducible rfl)); clear hHeld; have hHeld := hHeld'; clear hHeld'; (try simp only [Act.put, List.setIfInBounds_toArray, List.set_cons_zero, List.set_cons_succ])
        refine wpAnyD_take (i := 6) (oi := ⟨_, _, _, _, _, _⟩) (v := ?_) rfl (by kernel_rfl) (by kernel_rfl) (by kernel_rfl) (fun _ _ _ h => h) (by intro L w'; (try dsimp only); repeat (first | exact Iff.rfl | exact Till.ins (by decide) _ _ _ | refine and_congr ?_ ?_)) [] (by kernel_rfl) (by kernel_rfl) (Or.inl ⟨by rfl, ?_⟩) (by assumption) (fun hHeld' => ?_); rotate_left; (focus (intro w _; go_simp; try with_reducible rfl)); clear hHeld; have hHeld := hHeld'; clear hHeld'; (try simp only [Act.put, List.setIfInBounds_toArray, List.set_cons_zero, List.set_cons_succ])
        refine wpAnyD_take (i := 7) (oi := ⟨_, _, _, _, _, _⟩) (v := ?_) rfl (by kernel_rfl) (by kernel_rfl) (by kernel_rfl) (fun _ _ _ h => h) (by intro L w'; (try dsimp only); repeat (first | exact Iff.rfl | exact Till.ins (by decide) _ _ _ | refine and_congr ?_ ?_)) [] (by kernel_rfl) (by kernel_rfl) (Or.inl ⟨by rfl, ?_⟩) (by assumption) (fun hHeld' => ?_); rotate_left; (focus (intro w _; go_simp; try with_reducible rfl)); clear hHeld; have hHeld := hHeld'; clear hHeld'; (try simp only [Act.put, List.setIfInBounds_toArray, List.set_cons_zero, List.set_cons_succ])
        refine wpAnyD_take (i := 8) (oi := ⟨_, _, _, _, _, _⟩) (v := ?_) rfl (by kernel_rfl) (by kernel_rfl) (by kernel_rfl) (fun _ _ _ h => h) (by intro L w'; (try dsimp only); repeat (first | exact Iff.rfl | exact Till.ins (by decide) _ _ _ | refine and_congr ?_ ?_)) [] (by kernel_rfl) (by kernel_rfl) (Or.inl ⟨by rfl, ?_⟩) (by assumption) (fun hHeld' => ?_); rotate_left; (focus (intro w _; go_simp; try with_reducible rfl)); clear hHeld; have hHeld := hHeld'; clear hHeld'; (try simp only [Act.put, List.setIfInBounds_toArray, List.set_cons_zero, List.set_cons_succ])
        refine wpAnyD_take (i := 9) (oi := ⟨_, _, _, _, _, _⟩) (v := ?_) rfl (by kernel_rfl) (by kernel_rfl) (by kernel_rfl) (fun _ _ _ h => h) (by intro L w'; (try dsimp only); repeat (first | exact Iff.rfl | exact Till.ins (by decide) _ _ _ | refine and_congr ?_ ?_)) [12, 13, 14, 15, 16, 17] (by kernel_rfl) (by kernel_rfl) (Or.inl ⟨by rfl, ?_⟩) (by assumption) (fun hHeld' => ?_); rotate_left; (focus (intro w hSw0; obtain ⟨L, ho, hSw⟩ := hSw0; (try dsimp only at hSw); obtain ⟨t', HH⟩ := Till.of hSw.2 ho rfl; have t2 := HH.c2; have t3 := HH.c3; clear HH; clear ho hSw; go_simp; try with_reducible rfl)); clear hHeld; have hHeld := hHeld'; clear hHeld'; (try simp only [Act.put, List.setIfInBounds_toArray, List.set_cons_zero, List.set_cons_succ])
        refine wpAnyD_take (i := 10) (oi := ⟨_, _, _, _, _, _⟩) (v := ?_) rfl (by kernel_rfl) (by kernel_rfl) (by kernel_rfl) (fun _ _ _ h => h) (by intro L w'; (try dsimp only); repeat (first | exact Iff.rfl | exact Till.ins (by decide) _ _ _ | refine and_congr ?_ ?_)) [] (by kernel_rfl) (by kernel_rfl) (Or.inl ⟨by rfl, ?_⟩) (by assumption) (fun hHeld' => ?_); rotate_left; (focus (intro w _; go_simp; try with_reducible rfl)); clear hHeld; have hHeld := hHeld'; clear hHeld'; (try simp only [Act.put, List.setIfInBounds_toArray, List.set_cons_zero, List.set_cons_succ])
        refine wpAnyD_ready (rs := [11]) (by kernel_rfl) (by simp) ?_
        refine AllReadyD.cons (o := ⟨_, _, _, _, _, _⟩) rfl (fun K hK => ?_) AllReadyD.nil
        go_simp
        refine hK.out _ _ (by exact ⟨fun h => SBox.below (hHeld.1 h) (below_allocP _ _), fun h => Exists.elim (hHeld.2 h) fun t g => ⟨t, SBox.below g (below_allocP _ _)⟩⟩) (fun hHeld' => ?_)
        clear hHeld hK K
        have hHeld := hHeld'
        clear hHeld'
        try simp only [Act.put, List.setIfInBounds_toArray, List.set_cons_zero, List.set_cons_succ]
        refine wpAnyD_ready (rs := [12]) (by kernel_rfl) (by simp) ?_
        refine AllReadyD.cons (o := ⟨_, _, _, _, _, _⟩) rfl (fun K hK => ?_) AllReadyD.nil
        refine step_app_intsP rfl _ _ rfl KB (.slice la' ln' lc') pre rfl ((HI.out.below (Below.refl _ _).drew).below (below_allocP _ _)).list _ 1 1 [(k : Int)] rfl rfl (ints_new _ _ _) (by have := Hlen.out; simp; omega) (by have h1 := HI.out.kB.1; have h2 := HI.out.box.lt; simp; omega) ?_; intro a5 n5 c5 x5 ho5 hg5 hl5; have HX5 := Lib.hid ho5; have HG5 := Lib.hid hg5; have HL5 := Lib.hid hl5; have hS' : ∀ L, Till 14 (fun w' => SBox w' B TB P H (.slice la' ln' lc') (.func (.func 25) #[] #[.pointer (some ⟨OB, 0, none⟩)]) (takenB P pre)) L x5 ∧ Till 17 (fun w' => ∃ t', SBox w' B TB P H (.slice la' ln' lc') (.func (.func 25) #[] #[.pointer (some ⟨OB, 0, none⟩)]) t') L x5 := fun _ => ⟨fun _ => SBox.grown ((HI.out.below (Below.refl _ _).drew).below (below_allocP _ _)).box hg5 HI.out.lB HI.out.lT, fun _ => ⟨_, SBox.grown ((HI.out.below (Below.refl _ _).drew).below (below_allocP _ _)).box hg5 HI.out.lB HI.out.lT⟩⟩; clear ho5 hg5 hl5
        refine hK.out _ _ (by first | exact hS' | exact hS' _) (fun hHeld' => ?_)
        clear hHeld hK K
        have hHeld := hHeld'
        clear hHeld'
        try simp only [Act.put, List.setIfInBounds_toArray, List.set_cons_zero, List.set_cons_succ]
        refine wpAnyD_take (i := 13) (oi := ⟨_, _, _, _, _, _⟩) (v := ?_) rfl (by kernel_rfl) (by kernel_rfl) (by kernel_rfl) (fun _ _ _ h => h) (by intro L w'; (try dsimp only); repeat (first | exact Iff.rfl | exact Till.ins (by decide) _ _ _ | refine and_congr ?_ ?_)) [] (by kernel_rfl) (by kernel_rfl) (Or.inl ⟨by rfl, ?_⟩) (by assumption) (fun hHeld' => ?_); rotate_left; (focus (intro w _; go_simp; try with_reducible rfl)); clear hHeld; have hHeld := hHeld'; clear hHeld'; (try simp only [Act.put, List.setIfInBounds_toArray, List.set_cons_zero, List.set_cons_succ])
        refine wpAnyD_ready (rs := [14]) (by kernel_rfl) (by simp) ?_
        refine AllReadyD.cons (o := ⟨_, _, _, _, _, _⟩) rfl (fun K hK => ?_) AllReadyD.nil
        have gt := (hHeld.1 rfl).ct r hrlt; have gf := (hHeld.1 rfl).tf r
        go_simp
        refine hK.out _ _ (by exact ⟨fun h => absurd h (by decide), fun _ => ⟨_, SBox.setT (hHeld.1 rfl) r hrlt true⟩⟩) (fun hHeld' => ?_)
        clear hHeld hK K
        have hHeld := hHeld'
        clear hHeld'
        try simp only [Act.put, List.setIfInBounds_toArray, List.set_cons_zero, List.set_cons_succ]
        refine wpAnyD_take (i := 15) (oi := ⟨_, _, _, _, _, _⟩) (v := ?_) rfl (by kernel_rfl) (by kernel_rfl) (by kernel_rfl) (fun _ _ _ h => h) (by intro L w'; (try dsimp only); repeat (first | exact Iff.rfl | exact Till.ins (by decide) _ _ _ | refine and_congr ?_ ?_)) [] (by kernel_rfl) (by kernel_rfl) (Or.inl ⟨by rfl, ?_⟩) (by assumption) (fun hHeld' => ?_); rotate_left; (focus (intro w _; go_simp; try with_reducible rfl)); clear hHeld; have hHeld := hHeld'; clear hHeld'; (try simp only [Act.put, List.setIfInBounds_toArray, List.set_cons_zero, List.set_cons_succ])
        refine wpAnyD_take (i := 16) (oi := ⟨_, _, _, _, _, _⟩) (v := ?_) rfl (by kernel_rfl) (by kernel_rfl) (by kernel_rfl) (fun _ _ _ h => h) (by intro L w'; (try dsimp only); repeat (first | exact Iff.rfl | exact Till.ins (by decide) _ _ _ | refine and_congr ?_ ?_)) [] (by kernel_rfl) (by kernel_rfl) (Or.inl ⟨by rfl, ?_⟩) (by assumption) (fun hHeld' => ?_); rotate_left; (focus (intro w _; go_simp; try with_reducible rfl)); clear hHeld; have hHeld := hHeld'; clear hHeld'; (try simp only [Act.put, List.setIfInBounds_toArray, List.set_cons_zero, List.set_cons_succ])
        refine wpAnyD_ready (rs := [17]) (by kernel_rfl) (by simp) ?_
        refine AllReadyD.cons (o := ⟨_, _, _, _, _, _⟩) rfl (fun K hK => ?_) AllReadyD.nil
        obtain ⟨tk2, g⟩ := hHeld.2 rfl; have g6 := g.c2; have gf6 := g.fz 2
        go_simp
        refine hK.out _ _ (by exact ⟨fun h => absurd h (by decide), fun h => absurd h (by decide)⟩) (fun hHeld' => ?_)
        clear hHeld hK K
        have hHeld := hHeld'
        clear hHeld'
        try simp only [Act.put, List.setIfInBounds_toArray, List.set_cons_zero, List.set_cons_succ]
        refine wpAnyD_done (by kernel_rfl) ?_ _
        have HI4 := SInv.take ((HI.out.below (Below.refl _ _).drew).below (below_allocP _ _)) HX5.out HG5.out HL5.out ⟨_, _, _, rfl⟩ r hrlt true
        rw [taken_snoc HRr.out] at HI4
        have hb4 : Below KB w ((x5.setCell ⟨TB, r, none⟩ (.bool true)).setCell ⟨B, 2, none⟩ (.slice a5 n5 c5)) := ((((hb.drew).alloc (by have h1 := HI.out.kB.1; have h2 := HI.out.box.lt; show KB ≤ wr.drew.heap.size; exact Nat.le_trans h1 (Nat.le_of_lt h2)) _).grown HG5.out (by have h1 := HI.out.kB.1; have h2 := HI.out.box.lt; simp; omega) (fun g hg => (HI.out.list.lt g hg).1)).setCell (p := ⟨TB, r, none⟩) HI.out.kB.2.1 _).setCell (p := ⟨B, 2, none⟩) HI.out.kB.1 _
        generalize (x5.setCell ⟨TB, r, none⟩ (.bool true)).setCell ⟨B, 2, none⟩ (.slice a5 n5 c5) = x6 at *
        have HI5 := Lib.hid HI4
        have hwl : IntKind.i64.wrap ((left : Int) - (k : Int)) = ((left - k : Nat) : Int) := by rw [IntWalk.i64_in _ (by omega)]; omega
        have HK := Lib.hid (IH.out (pre ++ [(k : Int)]) (left - k) x6 _ _ ps' (by have := Hlen.out; simp; omega) (fun x hx => by
          rcases List.mem_append.1 hx with h | h
          · exact Hin.out x h
          · rw [List.mem_singleton.1 h]; omega) (by
          rw [lndN_snoc, List.nodup_append]
          refine ⟨Hnd.out, by simp, fun a ha b hb2 e => ?_⟩
          rw [List.mem_singleton.1 hb2] at e
          have h1 := HTK.out
          unfold takenB at h1
          have h2 := of_decide_eq_false h1
          rw [HRr.out, ← e] at h2
          exact h2 ha) (by omega) HI5.out (by have := HC1.out; omega))
        clear HI4 HX5 HG5 HL5 hHeld HI c0 c1 c3 ct hb
        have HEl := Lib.hid (each_len hH P d (pre ++ [(k : Int)]) (left - k))
        generalize eachF H P d (pre ++ [(k : Int)]) (left - k) = E7 at *
        go_wp2_with fail
        refine HK.out.mono ?_
        rintro e w7 ⟨rfl, lv7, fv7, ps7, hI7, hF7, hb7⟩
        have hbw := hb4.trans hb7
        have HC7 : Hid (ps7.length + (Hi + 1 - (k + 1)) * 8 ^ d ≤ 1000000) := Lib.hid (by
          have h1 := congrArg List.length hF7
          rw [List.length_map, List.length_append, List.length_map] at h1
          have h2 := List.length_filter_le implT E7
          have h3 := HEl.out
          have h4 := HC2.out
          omega)
        have HS7 : Hid (FIN = ps7.map (·.2) ++ ((List.range' (k + 1) (Hi + 1 - (k + 1))).flatMap FF).filter implT) := Lib.hid (by rw [HS.out, HQ.out, ← hF7])
        clear HK HI5 hb4 hb7 hF7 HEl HC1 HC2 HS HQ HFk
        obtain ⟨fa7, fn7, fc7, rfl⟩ := hI7.fs
        obtain ⟨g7, cap7, hlv7, hg71, hg72⟩ := hI7.list.form (by simp)
        subst hlv7
        have hcap7 : ln' ≤ cap7 := by
          rcases hI7.list.2 with ⟨e, _⟩ | ⟨g, cap, cur, e, _, _, hnc, _⟩
          · cases e
          · injection e with _ _ e3; subst e3; rw [Hlen.out]; simp at hnc; omega
        have hl71 : (pre ++ [(k : Int)]).length = ln' + 1 := by rw [List.length_append, Hlen.out]; rfl
        rw [hl71] at hI7
        have HI7 := Lib.hid hI7; clear hI7 hl71
        have hi0 : (0 : Int) ≤ (ln' : Int) := by omega
        have hi1 : (ln' : Int) ≤ (cap7 : Int) := by omega
        go_wp2
        refine wp_region_dep (S := fun L w' => Till 13 (fun w' => SBox w' B TB P H (.slice (some ⟨g7, 0, none⟩) (ln' + 1) cap7) (.func (.func 25) #[] #[.pointer (some ⟨OB, 0, none⟩)]) (takenB P (pre ++ [(k : Int)]))) L w' ∧ Till 16 (fun w' => ∃ t', SBox w' B TB P H (.slice (some ⟨g7, 0, none⟩) (ln' + 1) cap7) (.func (.func 25) #[] #[.pointer (some ⟨OB, 0, none⟩)]) t') L w') (by kernel_rfl) (by exact ⟨fun _ => HI7.out.box.below (Below.refl _ _).drew, fun _ => ⟨_, HI7.out.box.below (Below.refl _ _).drew⟩⟩) (fun hHeld => ?_)
        refine wpAnyD_take (i := 0) (oi := ⟨_, _, _, _, _, _⟩) (v := ?_) rfl (by kernel_rfl) (by kernel_rfl) (by kernel_rfl) (fun _ _ _ h => h) (by intro L w'; (try dsimp only); repeat (first | exact Iff.rfl | exact Till.ins (by decide) _ _ _ | refine and_congr ?_ ?_)) [] (by kernel_rfl) (by kernel_rfl) (Or.inl ⟨by rfl, ?_⟩) (by assumption) (fun hHeld' => ?_); rotate_left; (focus (intro w _; go_simp; try with_reducible rfl)); clear hHeld; have hHeld := hHeld'; clear hHeld'; (try simp only [Act.put, List.setIfInBounds_toArray, List.set_cons_zero, List.set_cons_succ])
        refine wpAnyD_take (i := 1) (oi := ⟨_, _, _, _, _, _⟩) (v := ?_) rfl (by kernel_rfl) (by kernel_rfl) (by kernel_rfl) (fun _ _ _ h => h) (by intro L w'; (try dsimp only); repeat (first | exact Iff.rfl | exact Till.ins (by decide) _ _ _ | refine and_congr ?_ ?_)) [] (by kernel_rfl) (by kernel_rfl) (Or.inl ⟨by rfl, ?_⟩) (by assumption) (fun hHeld' => ?_); rotate_left; (focus (intro w _; go_simp; try with_reducible rfl)); clear hHeld; have hHeld := hHeld'; clear hHeld'; (try simp only [Act.put, List.setIfInBounds_toArray, List.set_cons_zero, List.set_cons_succ])
        refine wpAnyD_take (i := 2) (oi := ⟨_, _, _, _, _, _⟩) (v := ?_) rfl (by kernel_rfl) (by kernel_rfl) (by kernel_rfl) (fun _ _ _ h => h) (by intro L w'; (try dsimp only); repeat (first | exact Iff.rfl | exact Till.ins (by decide) _ _ _ | refine and_congr ?_ ?_)) [] (by kernel_rfl) (by kernel_rfl) (Or.inl ⟨by rfl, ?_⟩) (by assumption) (fun hHeld' => ?_); rotate_left; (focus (intro w _; go_simp; try with_reducible rfl)); clear hHeld; have hHeld := hHeld'; clear hHeld'; (try simp only [Act.put, List.setIfInBounds_toArray, List.set_cons_zero, List.set_cons_succ])
        refine wpAnyD_take (i := 3) (oi := ⟨_, _, _, _, _, _⟩) (v := ?_) rfl (by kernel_rfl) (by kernel_rfl) (by kernel_rfl) (fun _ _ _ h => h) (by intro L w'; (try dsimp only); repeat (first | exact Iff.rfl | exact Till.ins (by decide) _ _ _ | refine and_congr ?_ ?_)) [12, 13, 14, 15, 16] (by kernel_rfl) (by kernel_rfl) (Or.inl ⟨by rfl, ?_⟩) (by assumption) (fun hHeld' => ?_); rotate_left; (focus (intro w hSw0; obtain ⟨L, ho, hSw⟩ := hSw0; (try dsimp only at hSw); obtain ⟨t', HH⟩ := Till.of hSw.2 ho rfl; have t2 := HH.c2; have t3 := HH.c3; clear HH; clear ho hSw; go_simp; try with_reducible rfl)); clear hHeld; have hHeld := hHeld'; clear hHeld'; (try simp only [Act.put, List.setIfInBounds_toArray, List.set_cons_zero, List.set_cons_succ])
        refine wpAnyD_take (i := 4) (oi := ⟨_, _, _, _, _, _⟩) (v := ?_) rfl (by kernel_rfl) (by kernel_rfl) (by kernel_rfl) (fun _ _ _ h => h) (by intro L w'; (try dsimp only); repeat (first | exact Iff.rfl | exact Till.ins (by decide) _ _ _ | refine and_congr ?_ ?_)) [] (by kernel_rfl) (by kernel_rfl) (Or.inl ⟨by rfl, ?_⟩) (by assumption) (fun hHeld' => ?_); rotate_left; (focus (intro w _; go_simp; try with_reducible rfl)); clear hHeld; have hHeld := hHeld'; clear hHeld'; (try simp only [Act.put, List.setIfInBounds_toArray, List.set_cons_zero, List.set_cons_succ])
        refine wpAnyD_take (i := 5) (oi := ⟨_, _, _, _, _, _⟩) (v := ?_) rfl (by kernel_rfl) (by kernel_rfl) (by kernel_rfl) (fun _ _ _ h => h) (by intro L w'; (try dsimp only); repeat (first | exact Iff.rfl | exact Till.ins (by decide) _ _ _ | refine and_congr ?_ ?_)) [] (by kernel_rfl) (by kernel_rfl) (Or.inl ⟨by rfl, ?_⟩) (by assumption) (fun hHeld' => ?_); rotate_left; (focus (intro w _; go_simp; try with_reducible rfl)); clear hHeld; have hHeld := hHeld'; clear hHeld'; (try simp only [Act.put, List.setIfInBounds_toArray, List.set_cons_zero, List.set_cons_succ])
        refine wpAnyD_take (i := 6) (oi := ⟨_, _, _, _, _, _⟩) (v := ?_) rfl (by kernel_rfl) (by kernel_rfl) (by kernel_rfl) (fun _ _ _ h => h) (by intro L w'; (try dsimp only); repeat (first | exact Iff.rfl | exact Till.ins (by decide) _ _ _ | refine and_congr ?_ ?_)) [] (by kernel_rfl) (by kernel_rfl) (Or.inl ⟨by rfl, ?_⟩) (by assumption) (fun hHeld' => ?_); rotate_left; (focus (intro w _; go_simp; try with_reducible rfl)); clear hHeld; have hHeld := hHeld'; clear hHeld'; (try simp only [Act.put, List.setIfInBounds_toArray, List.set_cons_zero, List.set_cons_succ])
        refine wpAnyD_take (i := 7) (oi := ⟨_, _, _, _, _, _⟩) (v := ?_) rfl (by kernel_rfl) (by kernel_rfl) (by kernel_rfl) (fun _ _ _ h => h) (by intro L w'; (try dsimp only); repeat (first | exact Iff.rfl | exact Till.ins (by decide) _ _ _ | refine and_congr ?_ ?_)) [] (by kernel_rfl) (by kernel_rfl) (Or.inl ⟨by rfl, ?_⟩) (by assumption) (fun hHeld' => ?_); rotate_left; (focus (intro w _; go_simp; try with_reducible rfl)); clear hHeld; have hHeld := hHeld'; clear hHeld'; (try simp only [Act.put, List.setIfInBounds_toArray, List.set_cons_zero, List.set_cons_succ])
        refine wpAnyD_take (i := 8) (oi := ⟨_, _, _, _, _, _⟩) (v := ?_) rfl (by kernel_rfl) (by kernel_rfl) (by kernel_rfl) (fun _ _ _ h => h) (by intro L w'; (try dsimp only); repeat (first | exact Iff.rfl | exact Till.ins (by decide) _ _ _ | refine and_congr ?_ ?_)) [] (by kernel_rfl) (by kernel_rfl) (Or.inl ⟨by rfl, ?_⟩) (by assumption) (fun hHeld' => ?_); rotate_left; (focus (intro w _; go_simp; try with_reducible rfl)); clear hHeld; have hHeld := hHeld'; clear hHeld'; (try simp only [Act.put, List.setIfInBounds_toArray, List.set_cons_zero, List.set_cons_succ])
        refine wpAnyD_take (i := 9) (oi := ⟨_, _, _, _, _, _⟩) (v := ?_) rfl (by kernel_rfl) (by kernel_rfl) (by kernel_rfl) (fun _ _ _ h => h) (by intro L w'; (try dsimp only); repeat (first | exact Iff.rfl | exact Till.ins (by decide) _ _ _ | refine and_congr ?_ ?_)) [11, 12, 13, 14, 15, 16] (by kernel_rfl) (by kernel_rfl) (Or.inl ⟨by rfl, ?_⟩) (by assumption) (fun hHeld' => ?_); rotate_left; (focus (intro w hSw0; obtain ⟨L, ho, hSw⟩ := hSw0; (try dsimp only at hSw); obtain ⟨t', HH⟩ := Till.of hSw.2 ho rfl; have t2 := HH.c2; have t3 := HH.c3; clear HH; clear ho hSw; go_simp; try with_reducible rfl)); clear hHeld; have hHeld := hHeld'; clear hHeld'; (try simp only [Act.put, List.setIfInBounds_toArray, List.set_cons_zero, List.set_cons_succ])
        refine wpAnyD_take (i := 10) (oi := ⟨_, _, _, _, _, _⟩) (v := ?_) rfl (by kernel_rfl) (by kernel_rfl) (by kernel_rfl) (fun _ _ _ h => h) (by intro L w'; (try dsimp only); repeat (first | exact Iff.rfl | exact Till.ins (by decide) _ _ _ | refine and_congr ?_ ?_)) [] (by kernel_rfl) (by kernel_rfl) (Or.inl ⟨by rfl, ?_⟩) (by assumption) (fun hHeld' => ?_); rotate_left; (focus (intro w _; go_simp; try with_reducible rfl)); clear hHeld; have hHeld := hHeld'; clear hHeld'; (try simp only [Act.put, List.setIfInBounds_toArray, List.set_cons_zero, List.set_cons_succ])
        refine wpAnyD_take (i := 11) (oi := ⟨_, _, _, _, _, _⟩) (v := ?_) rfl (by kernel_rfl) (by kernel_rfl) (by kernel_rfl) (fun _ _ _ h => h) (by intro L w'; (try dsimp only); repeat (first | exact Iff.rfl | exact Till.ins (by decide) _ _ _ | refine and_congr ?_ ?_)) [] (by kernel_rfl) (by kernel_rfl) (Or.inl ⟨by rfl, ?_⟩) (by assumption) (fun hHeld' => ?_); rotate_left; (focus (intro w _; go_simp; try with_reducible rfl)); clear hHeld; have hHeld := hHeld'; clear hHeld'; (try simp only [Act.put, List.setIfInBounds_toArray, List.set_cons_zero, List.set_cons_succ])
        refine wpAnyD_take (i := 12) (oi := ⟨_, _, _, _, _, _⟩) (v := ?_) rfl (by kernel_rfl) (by kernel_rfl) (by kernel_rfl) (fun _ _ _ h => h) (by intro L w'; (try dsimp only); repeat (first | exact Iff.rfl | exact Till.ins (by decide) _ _ _ | refine and_congr ?_ ?_)) [] (by kernel_rfl) (by kernel_rfl) (Or.inl ⟨by rfl, ?_⟩) (by assumption) (fun hHeld' => ?_); rotate_left; (focus (intro w _; go_simp; try with_reducible rfl)); clear hHeld; have hHeld := hHeld'; clear hHeld'; (try simp only [Act.put, List.setIfInBounds_toArray, List.set_cons_zero, List.set_cons_succ])
        refine wpAnyD_ready (rs := [13]) (by kernel_rfl) (by simp) ?_
        refine AllReadyD.cons (o := ⟨_, _, _, _, _, _⟩) rfl (fun K hK => ?_) AllReadyD.nil
        have gt := (hHeld.1 rfl).ct r hrlt; have gf := (hHeld.1 rfl).tf r
        go_simp
        refine hK.out _ _ (by exact ⟨fun h => absurd h (by decide), fun _ => ⟨_, SBox.setT (hHeld.1 rfl) r hrlt false⟩⟩) (fun hHeld' => ?_)
        clear hHeld hK K
        have hHeld := hHeld'
        clear hHeld'
        try simp only [Act.put, List.setIfInBounds_toArray, List.set_cons_zero, List.set_cons_succ]
        refine wpAnyD_take (i := 14) (oi := ⟨_, _, _, _, _, _⟩) (v := ?_) rfl (by kernel_rfl) (by kernel_rfl) (by kernel_rfl) (fun _ _ _ h => h) (by intro L w'; (try dsimp only); repeat (first | exact Iff.rfl | exact Till.ins (by decide) _ _ _ | refine and_congr ?_ ?_)) [] (by kernel_rfl) (by kernel_rfl) (Or.inl ⟨by rfl, ?_⟩) (by assumption) (fun hHeld' => ?_); rotate_left; (focus (intro w _; go_simp; try with_reducible rfl)); clear hHeld; have hHeld := hHeld'; clear hHeld'; (try simp only [Act.put, List.setIfInBounds_toArray, List.set_cons_zero, List.set_cons_succ])
        refine wpAnyD_take (i := 15) (oi := ⟨_, _, _, _, _, _⟩) (v := ?_) rfl (by kernel_rfl) (by kernel_rfl) (by kernel_rfl) (fun _ _ _ h => h) (by intro L w'; (try dsimp only); repeat (first | exact Iff.rfl | exact Till.ins (by decide) _ _ _ | refine and_congr ?_ ?_)) [] (by kernel_rfl) (by kernel_rfl) (Or.inl ⟨by rfl, ?_⟩) (by assumption) (fun hHeld' => ?_); rotate_left; (focus (intro w _; go_simp; try with_reducible rfl)); clear hHeld; have hHeld := hHeld'; clear hHeld'; (try simp only [Act.put, List.setIfInBounds_toArray, List.set_cons_zero, List.set_cons_succ])
        refine wpAnyD_ready (rs := [16]) (by kernel_rfl) (by simp) ?_
        refine AllReadyD.cons (o := ⟨_, _, _, _, _, _⟩) rfl (fun K hK => ?_) AllReadyD.nil
        obtain ⟨tk2, g⟩ := hHeld.2 rfl; have g6 := g.c2; have gf6 := g.fz 2
        go_simp
        refine hK.out _ _ (by exact ⟨fun h => absurd h (by decide), fun h => absurd h (by decide)⟩) (fun hHeld' => ?_)
        clear hHeld hK K
        have hHeld := hHeld'
        clear hHeld'
        try simp only [Act.put, List.setIfInBounds_toArray, List.set_cons_zero, List.set_cons_succ]
        refine wpAnyD_done (by kernel_rfl) ?_ _
        have HI8 := SInv.drop (HI7.out.below (Below.refl _ _).drew) ln' (by have := Hlen.out; simp; omega) r hrlt false
        rw [taken_back HRr.out HTK.out, List.take_left' (show pre.length = ln' from Hlen.out.symm)] at HI8
        have hb8 : Below KB w ((w7.setCell ⟨TB, r, none⟩ (.bool false)).setCell ⟨B, 2, none⟩ (.slice (some ⟨g7, 0, none⟩) ln' cap7)).drew := ((hbw.setCell (p := ⟨TB, r, none⟩) HI7.out.kB.2.1 _).setCell (p := ⟨B, 2, none⟩) HI7.out.kB.1 _).drew
        have hI9 : SInv ((w7.setCell ⟨TB, r, none⟩ (.bool false)).setCell ⟨B, 2, none⟩ (.slice (some ⟨g7, 0, none⟩) ln' cap7)).drew KB B TB OB P H (.slice (some ⟨g7, 0, none⟩) ln' cap7) (.func (.func 25) #[] #[.pointer (some ⟨OB, 0, none⟩)]) (.slice fa7 fn7 fc7) ps7 pre (takenB P pre) := HI8
        generalize ((w7.setCell ⟨TB, r, none⟩ (.bool false)).setCell ⟨B, 2, none⟩ (.slice (some ⟨g7, 0, none⟩) ln' cap7)).drew = x8 at *
        have HI9 := Lib.hid hI9
        clear hI9 HI8 HI7 hHeld hbw
        go_wp2
        exact ⟨⟨k + 1, _, _, ps7, by go_num, by omega, HI9, HS7, HC7, hb8⟩, by simp [intOf]; omega⟩
      · have HS2 : Hid (FIN = ps'.map (·.2) ++ ((List.range' (k + 1) (Hi + 1 - (k + 1))).flatMap FF).filter implT) := Lib.hid (by rw [HS.out, HFk.out]; simp)
        have HC3 : Hid (ps'.length + (Hi + 1 - (k + 1)) * 8 ^ d ≤ 1000000) := Lib.hid (Nat.le_trans (Nat.add_le_add_right (Nat.le_add_right _ _) _) HC2.out)
        clear HS HFk HC1 HC2
        go_wp2
        exact ⟨⟨k + 1, _, _, ps', by go_num, by omega, HI, HS2, HC3, hb⟩, by simp [intOf]; omega⟩
    · have hkI : ¬ (k : Int) ≤ (Hi : Int) := by omega
      have HE : Hid (ps'.map (·.2) = FIN) := Lib.hid (by rw [HR.out, flat_end FF (by omega)]; simp)
      clear HR HC
      go_wp2
      go_ret
      exact ⟨rfl, _, fv', ps', HI.out, by rw [HE.out, HFin.out], hb⟩
theorem step_c (KB B TB OB P H : Nat) (hP1 : 1 ≤ P) (hP : P ≤ 6) (hH : H ≤ 7) : ∀ d, StepSpec KB B TB OB P H d
  | 0 => step_leaf KB B TB OB P H hP1 hP hH
  | d + 1 => step_loop KB B TB OB P H d hP1 hP hH (step_c KB B TB OB P H hP1 hP hH d)
end Go.Proofs.Ythdejhningghcaa
