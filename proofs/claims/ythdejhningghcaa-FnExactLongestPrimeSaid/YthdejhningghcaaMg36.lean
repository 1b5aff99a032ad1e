import Derived.Test.YthdejhningghcaaMg35
import Derived.Test.YthdejhningghcaaMg32
import Derived.Deep.RegionHeld3
/- PrH: the memory of the search for prime patterns of the package spec; what has been seen, what is put in. -/
namespace Go.Proofs.Ythdejhningghcaa
open Go.ChangeShapes Go.WideShapes Go.ChangeAt Go.RowKit

def stM (H : Nat) (seen : List Nat) : List (Int × Int) := seen.map fun s : Nat => ((H : Int), (s : Int))
theorem stM_len (H : Nat) (seen : List Nat) : (stM H seen).length = seen.length := by simp [stM]
theorem stM_nth (H : Nat) (seen : List Nat) (i : Nat) (hi : i < seen.length) : nth (stM H seen) i = ((H : Int), ((nth seen i : Nat) : Int)) := nth_map' _ _ _ hi
theorem sts_len {w : World} {base n c : Nat} {a : Option Addr} {ms : List (Int × Int)} (h : OwnSts w base (.slice a n c) ms) : n = ms.length := by
  obtain ⟨_, _, e⟩ := slice_of_own h
  injection e
theorem sts_head {w : World} {base n c : Nat} {a : Option Addr} {ms : List (Int × Int)} (h : OwnSts w base (.slice a n c) ms) (h0 : 0 < n) : ∃ g, a = some ⟨g, 0, none⟩ ∧ base ≤ g ∧ g < w.heap.size := by
  have hl := sts_len h
  obtain ⟨g, cap, e, h1, h2⟩ := World.ownsRow.form h (by omega)
  injection e with e1
  exact ⟨g, e1, h1, h2⟩
theorem sts_cut {w : World} {base g n c k : Nat} {ms : List (Int × Int)} (h : OwnSts w base (.slice (some ⟨g, 0, none⟩) n c) ms) (hk : k ≤ ms.length) : OwnSts w base (.slice (some ⟨g, 0, none⟩) k c) (ms.take k) := by
  obtain ⟨h1, h2⟩ := h
  have hl2 : ∀ l : List (Int × Int), (cellsSt l).length = l.length * 2 := fun l => by
    unfold cellsSt
    induction l with
    | nil => rfl
    | cons x l ih => rw [List.flatMap_cons, List.length_append, ih]; simp; omega
  have htk : ∀ (l : List (Int × Int)) (j : Nat), cellsSt (l.take j) = (cellsSt l).take (j * 2) := fun l => by
    unfold cellsSt
    induction l with
    | nil => intro j; simp
    | cons x l ih =>
      intro j
      cases j with
      | zero => simp
      | succ j => rw [List.take_succ_cons, List.flatMap_cons, List.flatMap_cons, ih]; simp [Nat.succ_mul]
  have hlk : (ms.take k).length = k := by rw [List.length_take]; omega
  refine ⟨by rw [hl2], ?_⟩
  rcases h2 with ⟨e, _⟩ | ⟨g', cap, cur, e, hb, hg, hnc, hcm, hcs, htake⟩
  · cases e
  · injection e with e1 e2 e3
    injection e1 with e1
    injection e1 with e1
    subst e1 e2 e3
    refine .inr ⟨g, c, cur, by rw [hlk], hb, hg, by rw [hlk]; omega, hcm, hcs, ?_⟩
    rw [hlk, htk, ← htake, List.take_take, Nat.min_eq_left (by omega)]
/-- The search: its struct in block B; what it has seen, thrown, found: no two of these in one block. -/
structure WInv (w : World) (K B H m : Nat) (sv tv ov : Value) (full : Bool) (seen : List Nat) (th : List Int) (ps : List (Value × List Int)) : Prop where
  box : BoxIs w B [.int .i64 H, .int .i64 H, .int .i64 m, sv, tv, ov, .bool full]
  ss : ∃ a n c, sv = .slice a n c
  sts : OwnSts w K sv (stM H seen)
  tl : ∃ a n c, tv = .slice a n c
  thr : OwnInts w K tv th
  os : ∃ a n c, ov = .slice a n c
  row : RowP w K ov ps
  sB : sv.ownBlock ≠ some B
  tB : tv.ownBlock ≠ some B
  rB : ∀ g, RowBlk ov ps g → g ≠ B
  st : ∀ g, sv.ownBlock = some g → tv.ownBlock ≠ some g
  rs : ∀ g, RowBlk ov ps g → sv.ownBlock ≠ some g ∧ tv.ownBlock ≠ some g
  kB : K ≤ B
  le : ps.length ≤ 30
section
variable {w w' : World} {K B H m : Nat} {sv tv ov : Value} {full : Bool} {seen : List Nat} {th : List Int} {ps : List (Value × List Int)}
theorem WInv.below (h : WInv w K B H m sv tv ov full seen th ps) (hb : Below w.heap.size w w') : WInv w' K B H m sv tv ov full seen th ps :=
  ⟨h.box.below hb, h.ss, own_below h.sts hb, h.tl, own_below h.thr hb, h.os, h.row.below hb, h.sB, h.tB, h.rB, h.st, h.rs, h.kB, h.le⟩
theorem WInv.kw (h : WInv w K B H m sv tv ov full seen th ps) : K ≤ w.heap.size := by have := h.kB; have := h.box.1; omega
theorem box_grown {B : Nat} {l : List Value} {row : Option Nat} (h : BoxIs w B l) (hg : w.grownBy w' row) (hr : row ≠ some B) : BoxIs w' B l :=
  ⟨Nat.lt_of_lt_of_le h.1 hg.size, fun j => (World.cell?_of_block (a := ⟨B, j, none⟩) (hg.block B h.1 (fun e => hr e.symm))).trans (h.2.1 j), fun j => (World.frozen?_of_block (a := ⟨B, j, none⟩) (hg.block B h.1 (fun e => hr e.symm))).trans (h.2.2 j)⟩
/-- 's.seen = append(s.seen, next)'. -/
theorem WInv.pushS {x2 : World} {sv' : Value} {seen' : List Nat} (h : WInv w K B H m sv tv ov full seen th ps) (ho : OwnSts x2 K sv' (stM H seen')) (hg : w.grownBy x2 sv.ownBlock) (hloc : sv'.ownBlock = sv.ownBlock ∨ sv'.ownBlock = some w.heap.size) (hsl : ∃ a n c, sv' = .slice a n c) :
    WInv (x2.setCell ⟨B, 3, none⟩ sv') K B H m sv' tv ov full seen' th ps := by
  have hnew : ∀ g, g < w.heap.size → sv.ownBlock ≠ some g → sv'.ownBlock ≠ some g := fun g hg' hne e => by
    rcases hloc with e2 | e2
    · exact hne (by rw [← e2]; exact e)
    · rw [e2] at e; injection e with e; omega
  have hsB := hnew B h.box.1 h.sB
  have hst : ∀ g, tv.ownBlock = some g → sv.ownBlock ≠ some g := fun g hg' e => h.st g e hg'
  refine ⟨(box_grown h.box hg h.sB).set 3 (by simp) sv', hsl, own_off ho _ hsB _, h.tl, own_off (own_kept h.thr hg hst) _ h.tB _, h.os, (h.row.grown (fun g hk => (h.rs g hk).1) hg).set (p := ⟨B, 3, none⟩) h.rB _, hsB, h.tB, h.rB, fun g hg' e => ?_, fun g hg' => ⟨hnew g (h.row.lt hg').2 (h.rs g hg').1, (h.rs g hg').2⟩, h.kB, h.le⟩
  exact hnew g (h.thr.lt g e).2 (hst g e) hg'
/-- 's.throws = append(s.throws, list[i])'. -/
theorem WInv.pushT {x2 : World} {tv' : Value} {th' : List Int} (h : WInv w K B H m sv tv ov full seen th ps) (ho : OwnInts x2 K tv' th') (hg : w.grownBy x2 tv.ownBlock) (hloc : tv'.ownBlock = tv.ownBlock ∨ tv'.ownBlock = some w.heap.size) (hsl : ∃ a n c, tv' = .slice a n c) :
    WInv (x2.setCell ⟨B, 4, none⟩ tv') K B H m sv tv' ov full seen th' ps := by
  have hnew : ∀ g, g < w.heap.size → tv.ownBlock ≠ some g → tv'.ownBlock ≠ some g := fun g hg' hne e => by
    rcases hloc with e2 | e2
    · exact hne (by rw [← e2]; exact e)
    · rw [e2] at e; injection e with e; omega
  have htB := hnew B h.box.1 h.tB
  refine ⟨(box_grown h.box hg h.tB).set 4 (by simp) tv', h.ss, own_off (own_kept h.sts hg h.st) _ h.sB _, hsl, own_off ho _ htB _, h.os, (h.row.grown (fun g hk => (h.rs g hk).2) hg).set (p := ⟨B, 4, none⟩) h.rB _, h.sB, htB, h.rB, fun g hg' => hnew g (h.sts.lt g hg').2 (h.st g hg'), fun g hg' => ⟨(h.rs g hg').1, hnew g (h.row.lt hg').2 (h.rs g hg').2⟩, h.kB, h.le⟩
/-- 's.seen = s.seen[:k]'. -/
theorem WInv.popS {g n c : Nat} (h : WInv w K B H m (.slice (some ⟨g, 0, none⟩) n c) tv ov full seen th ps) (k : Nat) (hk : k ≤ seen.length) :
    WInv (w.setCell ⟨B, 3, none⟩ (.slice (some ⟨g, 0, none⟩) k c)) K B H m (.slice (some ⟨g, 0, none⟩) k c) tv ov full (seen.take k) th ps := by
  have hc := sts_cut h.sts (k := k) (by rw [stM_len]; exact hk)
  have e : (stM H seen).take k = stM H (seen.take k) := by unfold stM; rw [List.map_take]
  rw [e] at hc
  exact ⟨h.box.set 3 (by simp) _, ⟨_, _, _, rfl⟩, own_off hc ⟨B, 3, none⟩ h.sB _, h.tl, own_off h.thr _ h.tB _, h.os, h.row.set (p := ⟨B, 3, none⟩) h.rB _, h.sB, h.tB, h.rB, h.st, h.rs, h.kB, h.le⟩
/-- 's.throws = s.throws[:k]'. -/
theorem WInv.popT {g n c : Nat} (h : WInv w K B H m sv (.slice (some ⟨g, 0, none⟩) n c) ov full seen th ps) (k : Nat) (hk : k ≤ th.length) :
    WInv (w.setCell ⟨B, 4, none⟩ (.slice (some ⟨g, 0, none⟩) k c)) K B H m sv (.slice (some ⟨g, 0, none⟩) k c) ov full seen (th.take k) ps := by
  have hc := own_cut h.thr hk (by simp)
  exact ⟨h.box.set 4 (by simp) _, h.ss, own_off h.sts _ h.sB _, ⟨_, _, _, rfl⟩, own_off hc ⟨B, 4, none⟩ h.tB _, h.os, h.row.set (p := ⟨B, 4, none⟩) h.rB _, h.sB, h.tB, h.rB, h.st, h.rs, h.kB, h.le⟩
end
set_option maxHeartbeats 1000000 in
theorem has_c (K B H m x : Nat) (sv tv ov : Value) (full : Bool) (seen : List Nat) (th : List Int) (ps : List (Value × List Int)) (w : World) (hI : WInv w K B H m sv tv ov full seen th ps) (hl : seen.length ≤ 1000) :
    Calls Try.prog 50 #[.pointer (some ⟨B, 0, none⟩), .agg #[.int .i64 H, .int .i64 x]] w (Gives (.bool (decide (x ∈ seen))) w) := by
  obtain ⟨sa, sn, sc, rfl⟩ := hI.ss
  have hsn := sts_len hI.sts
  rw [stM_len] at hsn
  have HI := Lib.hid hI
  have Hsn := Lib.hid hsn
  have hsn2 : sn ≤ 1000 := by omega
  have HX0 := Lib.hid (BoxIs.new w [.int .i64 H, .int .i64 x] 47)
  clear hI hl hsn
  go_enter Try.func50, Try.ntmps50
  go_wp2
  go_loopw [5] (fun vi wr => ∃ k : Nat, vi = .int .i64 k ∧ k ≤ sn ∧ Hid (x ∉ seen.take k) ∧ Hid (BoxIs wr w.heap.size [.int .i64 H, .int .i64 x]) ∧ Below w.heap.size w wr) (fun vi _ => sn - (intOf vi).toNat)
  case atStart => exact ⟨0, rfl, Nat.zero_le _, Lib.hid (by simp), HX0, by go_grown⟩
  case round =>
    clear HX0
    obtain ⟨k, rfl, hk, HN, HX, hb⟩ := hrel
    have HIk := Lib.hid (HI.out.below hb)
    have c3 : wr.cell? ⟨B, 3, none⟩ = some (.slice sa sn sc) := HIk.out.box.2.1 3
    by_cases hlt : k < sn
    · obtain ⟨g, rfl, -, hgs⟩ := sts_head HIk.out.sts (by omega)
      have hks : k < seen.length := by rw [← Hsn.out]; exact hlt
      have hc := sts_cell HIk.out.sts (i := k) (by rw [stM_len]; exact hks)
      rw [stM_nth H seen k hks] at hc
      obtain ⟨y0, y1⟩ := hc
      have x0 : wr.cell? ⟨w.heap.size, 0, none⟩ = some (.int .i64 (H : Int)) := HX.out.2.1 0
      have x1 : wr.cell? ⟨w.heap.size, 1, none⟩ = some (.int .i64 (x : Int)) := HX.out.2.1 1
      have hm : nth seen k ∈ seen := mem_nth hks
      have HT : Hid (seen.take (k + 1) = seen.take k ++ [nth seen k]) := Lib.hid (take_nth seen k hks)
      generalize nth seen k = y at *
      by_cases hE : y = x
      · subst hE
        have hd : decide (y ∈ seen) = true := decide_eq_true hm
        generalize decide (y ∈ seen) = dd at *
        subst hd
        clear HN HT hm
        go_wp2
        go_quiet (fail)
        go_wp2
        go_ret
        exact Gives.bool rfl (below_drewN hb _)
      · have hEI : ¬ (y : Int) = (x : Int) := fun h => hE (Int.ofNat_inj.1 h)
        have hEb : ((y : Int) == (x : Int)) = false := beq_eq_false_iff_ne.2 hEI
        have HN2 : Hid (x ∉ seen.take (k + 1)) := Lib.hid (by
          rw [HT.out, List.mem_append, List.mem_singleton, not_or]
          exact ⟨HN.out, fun e => hE e.symm⟩)
        clear HN HT hm hE
        go_wp2
        go_quiet (fail)
        have hbq := below_drewN (Below.refl wr.heap.size wr) nq
        have HX2 := Lib.hid (HX.out.below hbq)
        have hb2 := below_drewN hb nq
        go_wp2
        exact ⟨⟨k + 1, by go_num, hlt, HN2, HX2, hb2⟩, by simp [intOf]; omega⟩
    · obtain rfl : k = sn := by omega
      have HD : Hid (decide (x ∈ seen) = false) := Lib.hid (decide_eq_false (fun h => HN.out (by rw [List.take_of_length_le (by rw [Hsn.out]; exact Nat.le_refl _)]; exact h)))
      generalize decide (x ∈ seen) = dd at *
      clear HN
      go_wp2
      go_ret
      exact Gives.bool HD.out hb
/-- 's.out = ..': a row made anew. -/
theorem WInv.putRow {w w' : World} {K B H m : Nat} {sv tv ov ov' : Value} {full : Bool} {seen : List Nat} {th : List Int} {ps ps' : List (Value × List Int)} (h : WInv w K B H m sv tv ov full seen th ps) (hb : Below w.heap.size w w') (hrow : RowP w' K ov' ps') (hos : ∃ a n c, ov' = .slice a n c)
    (hnew : ∀ g, RowBlk ov' ps' g → RowBlk ov ps g ∨ w.heap.size ≤ g) (hle : ps'.length ≤ 30) : WInv (w'.setCell ⟨B, 5, none⟩ ov') K B H m sv tv ov' full seen th ps' := by
  have h1 := h.below hb
  have hB := h.box.1
  have hrB : ∀ g, RowBlk ov' ps' g → g ≠ B := fun g hg => by
    rcases hnew g hg with h2 | h2
    · exact h.rB g h2
    · omega
  refine ⟨h1.box.set 5 (by simp) _, h.ss, own_off h1.sts _ h.sB _, h.tl, own_off h1.thr _ h.tB _, hos, hrow.set (p := ⟨B, 5, none⟩) hrB _, h.sB, h.tB, hrB, h.st, fun g hg => ?_, h.kB, hle⟩
  rcases hnew g hg with h2 | h2
  · exact h.rs g h2
  · refine ⟨fun e => ?_, fun e => ?_⟩
    · have := (h.sts.lt g e).2; omega
    · have := (h.thr.lt g e).2; omega
theorem RowP.readsTq {w : World} {base n c k : Nat} {a : Option Addr} {ps : List (Value × List Int)} (h : RowP w base (.slice a n c) ps) (hk : k ≤ n) : Reads w w.heap.size 1 a k ((ps.take k).map (·.1)) := by
  have := h.reads 0 k (by omega)
  have hz : a.map (fun x => x.add 0) = a := by
    cases a
    · rfl
    · rename_i x; unfold Addr.add; simp
  rw [hz, List.drop_zero] at this
  exact this
theorem RowP.readsDq {w : World} {base n c k : Nat} {a : Option Addr} {ps : List (Value × List Int)} (h : RowP w base (.slice a n c) ps) (hk : k ≤ n) : Reads w w.heap.size 1 (a.map fun x => x.add k) (n - k) ((ps.drop k).map (·.1)) := by
  have h1 := h.reads k (n - k) (by omega)
  rw [List.take_of_length_le (by rw [List.length_drop, ← h.len]; exact Nat.le_refl _)] at h1
  exact h1
theorem padd_none (b o j : Nat) : (⟨b, o, none⟩ : Addr).add j = ⟨b, o + j, none⟩ := by
  unfold Addr.add
  split
  · rename_i h; subst h; rfl
  · rfl
def AddPost (K B H m : Nat) (sv tv : Value) (seen : List Nat) (th : List Int) (w : World) (R : PSt) (e : Ending) (w' : World) : Prop :=
  e = .returned (.tuple #[]) ∧ ∃ (ov' : Value) (full' : Bool) (ps' : List (Value × List Int)), WInv w' K B H m sv tv ov' full' seen th ps' ∧ (ps'.map (·.2), full') = R ∧ Below K w w' ∧ ∀ g, g < w.heap.size → g ≠ B → w'.heap[g]? = w.heap[g]?
theorem AddPost.mk {K B H m : Nat} {sv tv ov' : Value} {seen : List Nat} {th : List Int} {w w' : World} {R : PSt} {full' : Bool} {ps' : List (Value × List Int)} (h : WInv w' K B H m sv tv ov' full' seen th ps') (hR : (ps'.map (·.2), full') = R) (hb : Below K w w') (hf : ∀ g, g < w.heap.size → g ≠ B → w'.heap[g]? = w.heap[g]?) : AddPost K B H m sv tv seen th w R (.returned (.tuple #[])) w' := ⟨rfl, ov', full', ps', h, hR, hb, hf⟩
theorem below_allocP' (W : World) (o : Obj) : Below W.heap.size W (W.alloc o) := (Below.refl _ _).alloc (Nat.le_refl _) _
theorem _root_.Go.RowKit.Below.trans' {w w1 w2 : World} (h : Below w.heap.size w w1) (k : Below w1.heap.size w1 w2) : Below w.heap.size w w2 := h.trans (k.mono h.size)
set_option maxRecDepth 100000 in
set_option maxHeartbeats 8000000 in
theorem add_c (K B H m : Nat) (sv tv ov : Value) (seen : List Nat) (th : List Int) (ps : List (Value × List Int)) (v : Value) (q : List Int) (w : World) (hI : WInv w K B H m sv tv ov false seen th ps) (hv : IntsAt w v q) (h1 : 1 ≤ q.length) (h12 : q.length ≤ 12) :
    Calls Try.prog 46 #[.pointer (some ⟨B, 0, none⟩), v] w (AddPost K B H m sv tv seen th w (addO (ps.map (·.2)) (canL q))) := by
  obtain ⟨oa, on, oc, rfl⟩ := hI.os
  have hon := hI.row.len
  have HIw := Lib.hid hI
  have Hon := Lib.hid hon
  have hon30 : on ≤ 30 := by rw [hon]; exact hI.le
  have HCan := Lib.hid (l03Canon_c v q w hv h1 h12)
  obtain ⟨cq, hcq⟩ : ∃ cq, canL q = cq := ⟨_, rfl⟩
  rw [hcq] at HCan
  rw [hcq]
  obtain ⟨RR, hRR⟩ : ∃ RR, addO (ps.map (·.2)) cq = RR := ⟨_, rfl⟩
  have HRR := Lib.hid hRR.symm
  rw [hRR]
  clear hI hv h1 h12 hon hcq hRR
  go_enter Try.func46, Try.ntmps46
  go_wp2_with fail
  refine HCan.out.mono ?_
  rintro e w1 ⟨xa, xn, xc, rfl, hx, hb1⟩
  have HX := Lib.hid hx
  have HI1 := Lib.hid (HIw.out.below hb1)
  have HB1 := Lib.hid hb1
  have hKw := HIw.out.kw
  have hb1K : Below K w w1 := hb1.mono hKw
  have hs1 := hb1.size
  have HCf0 : Hid (∀ g, (Value.slice xa xn xc).ownBlock = some g → w.heap.size ≤ g) := Lib.hid (fun g hg => (hx.lt g hg).1)
  have c5 : w1.cell? ⟨B, 5, none⟩ = some (.slice oa on oc) := HI1.out.box.2.1 5
  have hcap : on ≤ oc := HI1.out.row.cap
  clear hx hb1 HCan
  go_wp2
  go_loopw [4] (fun kk wr => ∃ p : Nat, kk = .int .i64 p ∧ p ≤ on ∧ Hid (posC (ps.map (·.2)) cq (ps.map (·.2)).length = posC (ps.map (·.2)) cq p) ∧ Below w1.heap.size w1 wr) (fun kk _ => (intOf kk).toNat)
  case atStart => exact ⟨on, rfl, Nat.le_refl _, Lib.hid (by rw [List.length_map, ← Hon.out]), Below.refl _ _⟩
  case round =>
    clear c5
    obtain ⟨p, rfl, hp, HP, hbr⟩ := hrel
    have HIr := Lib.hid (HI1.out.below hbr)
    have HXr := Lib.hid (own_below HX.out hbr)
    have c5 : wr.cell? ⟨B, 5, none⟩ = some (.slice oa on oc) := HIr.out.box.2.1 5
    have HBwr := Lib.hid (HB1.out.trans' hbr)
    have hbrK : Below K w wr := HBwr.out.mono hKw
    by_cases hp0 : p = 0
    · subst hp0
      have HPos : Hid (posC (ps.map (·.2)) cq (ps.map (·.2)).length = 0) := Lib.hid (by rw [HP.out]; rfl)
      have HIq := HIr
      have HBw := HBwr
      have hbq := hbrK
      have HCq : Hid (OwnInts (wr) K (.slice xa xn xc) cq) := Lib.hid (own_mono HXr.out hKw)
      have HCf := HCf0
      have HFr : Hid (∀ q ∈ ps, ∀ g, q.1.ownBlock = some g → (Value.slice xa xn xc).ownBlock ≠ some g) := Lib.hid (fun q hq g hg e => by
        have h1 := (HIw.out.row.lt (.inr ⟨q, hq, hg⟩)).2
        have h2 := HCf0.out g e
        omega)
      clear HP HIr HXr HBwr hbrK c5 HX HI1 HB1 hb1K HCf0
      by_cases hk1 : 0 < on
      · obtain ⟨g, rfl, -, -⟩ := HIq.out.row.head hk1
        have hkn : 0 ≤ on := by omega
        have hknI : (0 : Int) ≤ (on : Int) := by omega
        have hklt : ((0 : Nat) : Int) < (on : Int) := by omega
        have hkp : 0 < ps.length := by have := Hon.out; omega
        obtain ⟨⟨qa, qn, qc, hqv⟩, hqi⟩ := HIq.out.row.ints (0) hkp
        have e1 := HIq.out.row.cell (0) hkp
        rw [hqv] at e1 hqi
        have c5 : (wr).cell? ⟨B, 5, none⟩ = some (.slice (some ⟨g, 0, none⟩) on oc) := HIq.out.box.2.1 5
        have HK2 := Lib.hid (sSame_c (.slice qa qn qc) (.slice xa xn xc) (nth (ps.map (·.2)) (0)) cq (wr) hqi (OwnInts.at HCq.out))
        clear hqv hqi
        cases hsm : same2 eqI (nth (ps.map (·.2)) 0) cq
        · skip
          have HNo : Hid (¬ (0 < (ps.map (·.2)).length ∧ nth (ps.map (·.2)) (0) = cq)) := Lib.hid (fun h => by rw [(same2_iff eqI eqI_iff _ _).2 h.2] at hsm; exact absurd hsm (by decide))
          rw [hsm] at HK2
          clear hsm
          go_wp2_with fail
          refine HK2.out.mono ?_
          rintro e wq4 ⟨rfl, hb4⟩
          have HI4 := Lib.hid (HIq.out.below hb4)
          have HC4 := Lib.hid (own_below HCq.out hb4)
          have HB4 := Lib.hid (HBw.out.trans' hb4)
          have hbq4 : Below K w wq4 := hbq.trans (hb4.mono HIq.out.kw)
          clear HK2 e1 c5 HIq HCq HBw hbq hb4
          have HIq := HI4
          have HCq := HC4
          have HBw := HB4
          have hbq := hbq4
          clear HI4 HC4 HB4 hbq4
          generalize hwe : wq4 = wq at *
          clear hwe
          have RD2 : Hid (∀ W, Below wq.heap.size wq W → Reads W W.heap.size 1 (some ⟨g, 0, none⟩) on ((ps.drop 0).map (·.1))) := Lib.hid (fun W h => by
            have := (HIq.out.row.below h).readsDq (Nat.zero_le on)
            rw [Option.map_some, padd_none, Nat.sub_zero] at this
            exact this)
          by_cases h30 : 30 ≤ on
          · have HR9 : Hid ((ps.map (·.2), true) = RR) := Lib.hid (by rw [HRR.out]; unfold addO; rw [HPos.out, if_neg HNo.out, if_pos (by rw [List.length_map, ← Hon.out]; exact h30)])
            have c5 : wq.cell? ⟨B, 5, none⟩ = some (.slice (some ⟨g, 0, none⟩) on oc) := HIq.out.box.2.1 5
            have c6 : wq.cell? ⟨B, 6, none⟩ = some (.bool false) := HIq.out.box.2.1 6
            have f6 : wq.frozen? ⟨B, 6, none⟩ = false := HIq.out.box.2.2 6
            have hBl := HIq.out.box.1
            have HI9 : Hid (WInv (wq.setCell ⟨B, 6, none⟩ (.bool true)) K B H m sv tv (.slice (some ⟨g, 0, none⟩) on oc) true seen th ps) := Lib.hid ⟨HIq.out.box.set 6 (by simp) _, HIq.out.ss, own_off HIq.out.sts _ HIq.out.sB _, HIq.out.tl, own_off HIq.out.thr _ HIq.out.tB _, HIq.out.os, HIq.out.row.set (p := ⟨B, 6, none⟩) HIq.out.rB _, HIq.out.sB, HIq.out.tB, HIq.out.rB, HIq.out.st, HIq.out.rs, HIq.out.kB, HIq.out.le⟩
            have hb9 : Below K w (wq.setCell ⟨B, 6, none⟩ (.bool true)) := hbq.setCell (p := ⟨B, 6, none⟩) HIq.out.kB _
            have HF9 : Hid (∀ g, g < w.heap.size → g ≠ B → (wq.setCell ⟨B, 6, none⟩ (.bool true)).heap[g]? = w.heap[g]?) := Lib.hid (fun g hg hne => (Below.heap_setCell wq ⟨B, 6, none⟩ _ g hne).trans (HBw.out.block g hg))
            have hI30 : (30 : Int) ≤ ((on : Nat) : Int) := by omega
            clear HPos HNo HRR HCq HIq HFr
            go_wp2
            (try simp only [Exit.inBlock, Exit.then])
            first | refine bodyPost_ret (results_none rfl _ _ _) rfl ?_ | refine bodyPost_end (results_none rfl _ _ _) rfl ?_
            exact AddPost.mk HI9.out HR9.out hb9 HF9.out
          · skip
            have HR9 : Hid ((((ps.take (0) ++ (.slice xa xn xc, cq) :: ps.drop (0)).map (·.2)), false) = RR) := Lib.hid (by rw [HRR.out]; unfold addO; rw [HPos.out, if_neg HNo.out, if_neg (by rw [List.length_map, ← Hon.out]; exact h30), List.map_append, List.map_cons, List.map_take, List.map_drop])
            have c5 : wq.cell? ⟨B, 5, none⟩ = some (.slice (some ⟨g, 0, none⟩) on oc) := HIq.out.box.2.1 5
            have hBl := HIq.out.box.1
            have hszq := HIq.out.kw
            have hI30 : ¬ (30 : Int) ≤ ((on : Nat) : Int) := by omega
            go_wp2_with (at_builtin; refine wpList_app_lists rfl _ _ rfl wq.heap.size _ 0 [] rfl (World.ownsRow_lit wq #[] 0 (Nat.le_refl _) (by decide) rfl) _ (0) _ _ rfl (((HIq.out.row).below (below_allocP' _ _)).readsTq hkn) (HIq.out.row.one _ (fun q hq => List.mem_of_mem_take hq)) (by omega) (by simp) ?_)
            intro a4 n4 c4 w4 hn4 ho4 hg4 _
            have hb4 : Below wq.heap.size wq w4 := ((Below.refl _ _).alloc (Nat.le_refl _) _).grown hg4 (by simp) (fun g hg => by simp [Value.ownBlock] at hg; omega)
            have HO4 : Hid (w4.ownsRow wq.heap.size 35 1 (.slice a4 n4 c4) (0) ((ps.take (0)).map (·.1))) := Lib.hid (by simpa using ho4)
            clear ho4 hg4 hn4
            have hs4 := hb4.size
            have c5' := cell_then hBl c5 hb4
            clear c5
            go_wp2_with (at_builtin; refine wpList_app_lists rfl _ _ rfl wq.heap.size _ _ _ rfl (HO4.out.alloc _) _ 1 1 [.slice xa xn xc] rfl (oneList _ _ _) (by intro y hy; simp at hy; subst hy; rfl) (by omega) (by simp; omega) ?_)
            intro a5 n5 c5 w5 hn5 ho5 hg5 _
            have hb5 : Below wq.heap.size wq w5 := (hb4.alloc (by omega) _).grown hg5 (by simp; omega) (fun g hg => (World.ownsRow.lt HO4.out g hg).1)
            have HO5 := Lib.hid ho5
            clear ho5 hg5 hn5 c5'
            have c55 : w5.cell? ⟨B, 5, none⟩ = some (.slice (some ⟨g, 0, none⟩) on oc) := cell_then hBl (HIq.out.box.2.1 5) hb5
            go_wp2_with (at_builtin; refine wpList_app_lists rfl _ _ rfl wq.heap.size _ _ _ rfl HO5.out _ (on) _ _ rfl (RD2.out _ hb5) (HIq.out.row.one _ (fun q hq => List.mem_of_mem_drop hq)) (by omega) hb5.size ?_)
            intro a6 n6 c6 w6 hn6 ho6 hg6 hl6
            have hb6 : Below wq.heap.size wq w6 := hb5.grown hg6 hb5.size (fun g hg => (World.ownsRow.lt HO5.out g hg).1)
            have HRow : Hid (RowP w6 K (.slice a6 n6 c6) (ps.take (0) ++ (.slice xa xn xc, cq) :: ps.drop (0))) := Lib.hid (HIq.out.row.put (p := 0) (v' := .slice a6 n6 c6) HCq.out ⟨_, _, _, rfl⟩ HFr.out hb6 (by
              have e : (0) + 1 + (on) = ps.length + 1 := by have := Hon.out; omega
              try rw [e] at ho6
              first | simpa using ho6 | simpa [← List.map_drop, hdn] using ho6 | simpa [hps0] using ho6) hszq)
            have hblk : ∀ g, (Value.slice a6 n6 c6).ownBlock = some g → wq.heap.size ≤ g := fun g hg => by
              rcases hl6 with e | e
              · exact (World.ownsRow.lt HO5.out g (by rw [← e]; exact hg)).1
              · rw [e] at hg; injection hg with hg; have := hb5.size; omega
            have HI9 := Lib.hid (WInv.putRow HIw.out (HBw.out.trans' hb6) HRow.out ⟨_, _, _, rfl⟩ (fun g hg => by
              rcases hg with hg | ⟨q, hq, hg⟩
              · right
                have h1 := hblk g hg
                have h2 := HBw.out.size
                omega
              · rcases List.mem_append.1 hq with h | h
                · exact .inl (.inr ⟨q, List.mem_of_mem_take h, hg⟩)
                · rcases List.mem_cons.1 h with rfl | h
                  · right
                    exact HCf.out g hg
                  · exact .inl (.inr ⟨q, List.mem_of_mem_drop h, hg⟩)) (by have := Hon.out; simp; omega))
            have hb9 : Below K w (w6.setCell ⟨B, 5, none⟩ (.slice a6 n6 c6)) := (hbq.trans (hb6.mono hszq)).setCell (p := ⟨B, 5, none⟩) HIq.out.kB _
            have HF9 : Hid (∀ g, g < w.heap.size → g ≠ B → (w6.setCell ⟨B, 5, none⟩ (.slice a6 n6 c6)).heap[g]? = w.heap[g]?) := Lib.hid (fun g hg hne => (Below.heap_setCell w6 ⟨B, 5, none⟩ _ g hne).trans ((HBw.out.trans' hb6).block g hg))
            have c56 : w6.cell? ⟨B, 5, none⟩ = some (.slice (some ⟨g, 0, none⟩) on oc) := cell_then hBl (HIq.out.box.2.1 5) hb6
            have f56 : w6.frozen? ⟨B, 5, none⟩ = false := (hb6.frozen (p := ⟨B, 5, none⟩) hBl).trans (HIq.out.box.2.2 5)
            have hBl6 := Nat.lt_of_lt_of_le hBl hb6.size
            clear hn6 ho6 hg6 hl6 HO5 HO4 HRow HPos HNo HRR HCq HIq HFr HIw HBw HCf c55 hblk
            go_wp2
            (try simp only [Exit.inBlock, Exit.then])
            first | refine bodyPost_ret (results_none rfl _ _ _) rfl ?_ | refine bodyPost_end (results_none rfl _ _ _) rfl ?_
            exact AddPost.mk HI9.out HR9.out hb9 HF9.out
        · skip
          have heq := (same2_iff eqI eqI_iff _ _).1 hsm
          rw [hsm] at HK2
          go_wp2_with fail
          refine HK2.out.mono ?_
          rintro e wq4 ⟨rfl, hb4⟩
          have HI9 := Lib.hid (HIq.out.below hb4)
          have HR9 : Hid ((ps.map (·.2), false) = RR) := Lib.hid (by rw [HRR.out]; unfold addO; rw [HPos.out, if_pos ⟨by rw [List.length_map]; exact hkp, heq⟩])
          have hb9 : Below K w wq4 := hbq.trans (hb4.mono HIq.out.kw)
          have HF9 : Hid (∀ g, g < w.heap.size → g ≠ B → wq4.heap[g]? = w.heap[g]?) := Lib.hid (fun g hg _ => (HBw.out.trans' hb4).block g hg)
          clear hsm heq HK2 e1 HPos HRR HCq HIq HFr hb4
          go_wp2
          (try simp only [Exit.inBlock, Exit.then])
          first | refine bodyPost_ret (results_none rfl _ _ _) rfl ?_ | refine bodyPost_end (results_none rfl _ _ _) rfl ?_
          exact AddPost.mk HI9.out HR9.out hb9 HF9.out
      · obtain rfl : on = 0 := by omega
        have hps0 : ps = [] := List.eq_nil_of_length_eq_zero Hon.out.symm
        have hkn : 0 ≤ 0 := Nat.le_refl 0
        have HNo : Hid (¬ (0 < (ps.map (·.2)).length ∧ nth (ps.map (·.2)) 0 = cq)) := Lib.hid (fun h => by have h1 := h.1; rw [List.length_map, ← Hon.out] at h1; omega)
        have c5 : wr.cell? ⟨B, 5, none⟩ = some (.slice oa 0 oc) := HIq.out.box.2.1 5
        generalize hwe : wr = wq at *
        clear hwe
        have hdn : ps.drop 0 = [] := by rw [hps0]; rfl
        have h30 : ¬ 30 ≤ 0 := by omega
        have HR9 : Hid ((((ps.take (0) ++ (.slice xa xn xc, cq) :: ps.drop (0)).map (·.2)), false) = RR) := Lib.hid (by rw [HRR.out]; unfold addO; rw [HPos.out, if_neg HNo.out, if_neg (by rw [List.length_map, ← Hon.out]; exact h30), List.map_append, List.map_cons, List.map_take, List.map_drop])
        have c5 : wq.cell? ⟨B, 5, none⟩ = some (.slice oa 0 oc) := HIq.out.box.2.1 5
        have hBl := HIq.out.box.1
        have hszq := HIq.out.kw
        have hI30 : ¬ (30 : Int) ≤ ((0 : Nat) : Int) := by omega
        go_wp2_with (at_builtin; refine wpList_app_lists rfl _ _ rfl wq.heap.size _ 0 [] rfl (World.ownsRow_lit wq #[] 0 (Nat.le_refl _) (by decide) rfl) _ (0) _ _ rfl (((HIq.out.row).below (below_allocP' _ _)).readsTq hkn) (HIq.out.row.one _ (fun q hq => List.mem_of_mem_take hq)) (by omega) (by simp) ?_)
        intro a4 n4 c4 w4 hn4 ho4 hg4 _
        have hb4 : Below wq.heap.size wq w4 := ((Below.refl _ _).alloc (Nat.le_refl _) _).grown hg4 (by simp) (fun g hg => by simp [Value.ownBlock] at hg; omega)
        have HO4 : Hid (w4.ownsRow wq.heap.size 35 1 (.slice a4 n4 c4) (0) ((ps.take (0)).map (·.1))) := Lib.hid (by simpa using ho4)
        clear ho4 hg4 hn4
        have hs4 := hb4.size
        have c5' := cell_then hBl c5 hb4
        clear c5
        go_wp2_with (at_builtin; refine wpList_app_lists rfl _ _ rfl wq.heap.size _ _ _ rfl (HO4.out.alloc _) _ 1 1 [.slice xa xn xc] rfl (oneList _ _ _) (by intro y hy; simp at hy; subst hy; rfl) (by omega) (by simp; omega) ?_)
        intro a5 n5 c5 w5 hn5 ho5 hg5 _
        have hb5 : Below wq.heap.size wq w5 := (hb4.alloc (by omega) _).grown hg5 (by simp; omega) (fun g hg => (World.ownsRow.lt HO4.out g hg).1)
        have HO5 := Lib.hid ho5
        clear ho5 hg5 hn5 c5'
        have c55 : w5.cell? ⟨B, 5, none⟩ = some (.slice oa 0 oc) := cell_then hBl (HIq.out.box.2.1 5) hb5
        go_wp2_with (at_builtin; refine wpList_app_lists rfl _ _ rfl wq.heap.size _ _ _ rfl HO5.out _ (0) _ _ rfl ((by rw [hdn]; exact ⟨rfl, fun h => absurd h (Nat.lt_irrefl _)⟩)) (HIq.out.row.one _ (fun q hq => List.mem_of_mem_drop hq)) (by omega) hb5.size ?_)
        intro a6 n6 c6 w6 hn6 ho6 hg6 hl6
        have hb6 : Below wq.heap.size wq w6 := hb5.grown hg6 hb5.size (fun g hg => (World.ownsRow.lt HO5.out g hg).1)
        have HRow : Hid (RowP w6 K (.slice a6 n6 c6) (ps.take (0) ++ (.slice xa xn xc, cq) :: ps.drop (0))) := Lib.hid (HIq.out.row.put (p := 0) (v' := .slice a6 n6 c6) HCq.out ⟨_, _, _, rfl⟩ HFr.out hb6 (by
          have e : (0) + 1 + (0) = ps.length + 1 := by have := Hon.out; omega
          try rw [e] at ho6
          first | simpa using ho6 | simpa [← List.map_drop, hdn] using ho6 | simpa [hps0] using ho6) hszq)
        have hblk : ∀ g, (Value.slice a6 n6 c6).ownBlock = some g → wq.heap.size ≤ g := fun g hg => by
          rcases hl6 with e | e
          · exact (World.ownsRow.lt HO5.out g (by rw [← e]; exact hg)).1
          · rw [e] at hg; injection hg with hg; have := hb5.size; omega
        have HI9 := Lib.hid (WInv.putRow HIw.out (HBw.out.trans' hb6) HRow.out ⟨_, _, _, rfl⟩ (fun g hg => by
          rcases hg with hg | ⟨q, hq, hg⟩
          · right
            have h1 := hblk g hg
            have h2 := HBw.out.size
            omega
          · rcases List.mem_append.1 hq with h | h
            · exact .inl (.inr ⟨q, List.mem_of_mem_take h, hg⟩)
            · rcases List.mem_cons.1 h with rfl | h
              · right
                exact HCf.out g hg
              · exact .inl (.inr ⟨q, List.mem_of_mem_drop h, hg⟩)) (by have := Hon.out; simp; omega))
        have hb9 : Below K w (w6.setCell ⟨B, 5, none⟩ (.slice a6 n6 c6)) := (hbq.trans (hb6.mono hszq)).setCell (p := ⟨B, 5, none⟩) HIq.out.kB _
        have HF9 : Hid (∀ g, g < w.heap.size → g ≠ B → (w6.setCell ⟨B, 5, none⟩ (.slice a6 n6 c6)).heap[g]? = w.heap[g]?) := Lib.hid (fun g hg hne => (Below.heap_setCell w6 ⟨B, 5, none⟩ _ g hne).trans ((HBw.out.trans' hb6).block g hg))
        have c56 : w6.cell? ⟨B, 5, none⟩ = some (.slice oa 0 oc) := cell_then hBl (HIq.out.box.2.1 5) hb6
        have f56 : w6.frozen? ⟨B, 5, none⟩ = false := (hb6.frozen (p := ⟨B, 5, none⟩) hBl).trans (HIq.out.box.2.2 5)
        have hBl6 := Nat.lt_of_lt_of_le hBl hb6.size
        clear hn6 ho6 hg6 hl6 HO5 HO4 HRow HPos HNo HRR HCq HIq HFr HIw HBw HCf c55 hblk
        go_wp2
        (try simp only [Exit.inBlock, Exit.then])
        first | refine bodyPost_ret (results_none rfl _ _ _) rfl ?_ | refine bodyPost_end (results_none rfl _ _ _) rfl ?_
        exact AddPost.mk HI9.out HR9.out hb9 HF9.out
    · have hn0 : 0 < on := by omega
      obtain ⟨g, rfl, -, -⟩ := HIr.out.row.head hn0
      have hp1 : p - 1 < ps.length := by have := Hon.out; omega
      obtain ⟨⟨qa, qn, qc, hqv⟩, hqi⟩ := HIr.out.row.ints (p - 1) hp1
      have e1 := HIr.out.row.cell (p - 1) hp1
      rw [hqv] at e1 hqi
      have hw1 : IntKind.i64.wrap ((p : Int) - 1) = (p : Int) - 1 := IntWalk.i64_in _ (by omega)
      have hi0 : (0 : Int) ≤ (p : Int) - 1 := by omega
      have hi1 : (p : Int) - 1 < (on : Int) := by omega
      have hi2 : ((p : Int) - 1).toNat = p - 1 := by omega
      have hd : decide (0 < p) = true := decide_eq_true (by omega)
      have hpI : (0 : Int) < (p : Int) := by omega
      have HK := Lib.hid (l02Compare_c (.slice qa qn qc) (.slice xa xn xc) (nth (ps.map (·.2)) (p - 1)) cq wr hqi (OwnInts.at HXr.out))
      have hps : posC (ps.map (·.2)) cq p = if cmpL (nth (ps.map (·.2)) (p - 1)) cq < 0 then p else posC (ps.map (·.2)) cq (p - 1) := by
        obtain ⟨q, rfl⟩ : ∃ q, p = q + 1 := ⟨p - 1, by omega⟩
        rfl
      generalize cmpL (nth (ps.map (·.2)) (p - 1)) cq = z at *
      clear hqv hqi
      by_cases hgt : z < 0
      · rw [if_pos hgt] at hps
        have HPos : Hid (posC (ps.map (·.2)) cq (ps.map (·.2)).length = p) := Lib.hid (by rw [HP.out, hps])
        have hz : ¬ 0 ≤ z := by omega
        clear hps HP
        go_wp2_with fail
        refine HK.out.mono ?_
        rintro e w3 ⟨rfl, hb3⟩
        have HI3 := Lib.hid (HIr.out.below hb3)
        have HX3 := Lib.hid (own_below HXr.out hb3)
        have HB3 := Lib.hid (HBwr.out.trans' hb3)
        have hb3K : Below K w w3 := hbrK.trans (hb3.mono HIr.out.kw)
        have HIq := HI3
        have HBw := HB3
        have hbq := hb3K
        have HCq : Hid (OwnInts (w3) K (.slice xa xn xc) cq) := Lib.hid (own_mono HX3.out hKw)
        have HCf := HCf0
        have HFr : Hid (∀ q ∈ ps, ∀ g, q.1.ownBlock = some g → (Value.slice xa xn xc).ownBlock ≠ some g) := Lib.hid (fun q hq g hg e => by
          have h1 := (HIw.out.row.lt (.inr ⟨q, hq, hg⟩)).2
          have h2 := HCf0.out g e
          omega)
        clear HK e1 c5 HI3 HX3 HB3 hb3K hb3 HIr HXr HBwr hbrK HX HI1 HB1 hb1K HCf0
        by_cases hk1 : p < on
        · skip
          have hkn : p ≤ on := by omega
          have hknI : (p : Int) ≤ (on : Int) := by omega
          have hklt : ((p : Nat) : Int) < (on : Int) := by omega
          have hkp : p < ps.length := by have := Hon.out; omega
          obtain ⟨⟨qa, qn, qc, hqv⟩, hqi⟩ := HIq.out.row.ints (p) hkp
          have e1 := HIq.out.row.cell (p) hkp
          rw [hqv] at e1 hqi
          have c5 : (w3).cell? ⟨B, 5, none⟩ = some (.slice (some ⟨g, 0, none⟩) on oc) := HIq.out.box.2.1 5
          have HK2 := Lib.hid (sSame_c (.slice qa qn qc) (.slice xa xn xc) (nth (ps.map (·.2)) (p)) cq (w3) hqi (OwnInts.at HCq.out))
          clear hqv hqi
          cases hsm : same2 eqI (nth (ps.map (·.2)) p) cq
          · skip
            have HNo : Hid (¬ (p < (ps.map (·.2)).length ∧ nth (ps.map (·.2)) (p) = cq)) := Lib.hid (fun h => by rw [(same2_iff eqI eqI_iff _ _).2 h.2] at hsm; exact absurd hsm (by decide))
            rw [hsm] at HK2
            clear hsm
            go_wp2_with fail
            refine HK2.out.mono ?_
            rintro e wq4 ⟨rfl, hb4⟩
            have HI4 := Lib.hid (HIq.out.below hb4)
            have HC4 := Lib.hid (own_below HCq.out hb4)
            have HB4 := Lib.hid (HBw.out.trans' hb4)
            have hbq4 : Below K w wq4 := hbq.trans (hb4.mono HIq.out.kw)
            clear HK2 e1 c5 HIq HCq HBw hbq hb4
            have HIq := HI4
            have HCq := HC4
            have HBw := HB4
            have hbq := hbq4
            clear HI4 HC4 HB4 hbq4
            generalize hwe : wq4 = wq at *
            clear hwe
            have RD2 : Hid (∀ W, Below wq.heap.size wq W → Reads W W.heap.size 1 (some ⟨g, p, none⟩) (on - p) ((ps.drop p).map (·.1))) := Lib.hid (fun W h => by
              have := (HIq.out.row.below h).readsDq hkn
              rw [Option.map_some, padd_none, Nat.zero_add] at this
              exact this)
            have hcp : ¬ oc = p := by omega
            by_cases h30 : 30 ≤ on
            · have HR9 : Hid ((ps.map (·.2), true) = RR) := Lib.hid (by rw [HRR.out]; unfold addO; rw [HPos.out, if_neg HNo.out, if_pos (by rw [List.length_map, ← Hon.out]; exact h30)])
              have c5 : wq.cell? ⟨B, 5, none⟩ = some (.slice (some ⟨g, 0, none⟩) on oc) := HIq.out.box.2.1 5
              have c6 : wq.cell? ⟨B, 6, none⟩ = some (.bool false) := HIq.out.box.2.1 6
              have f6 : wq.frozen? ⟨B, 6, none⟩ = false := HIq.out.box.2.2 6
              have hBl := HIq.out.box.1
              have HI9 : Hid (WInv (wq.setCell ⟨B, 6, none⟩ (.bool true)) K B H m sv tv (.slice (some ⟨g, 0, none⟩) on oc) true seen th ps) := Lib.hid ⟨HIq.out.box.set 6 (by simp) _, HIq.out.ss, own_off HIq.out.sts _ HIq.out.sB _, HIq.out.tl, own_off HIq.out.thr _ HIq.out.tB _, HIq.out.os, HIq.out.row.set (p := ⟨B, 6, none⟩) HIq.out.rB _, HIq.out.sB, HIq.out.tB, HIq.out.rB, HIq.out.st, HIq.out.rs, HIq.out.kB, HIq.out.le⟩
              have hb9 : Below K w (wq.setCell ⟨B, 6, none⟩ (.bool true)) := hbq.setCell (p := ⟨B, 6, none⟩) HIq.out.kB _
              have HF9 : Hid (∀ g, g < w.heap.size → g ≠ B → (wq.setCell ⟨B, 6, none⟩ (.bool true)).heap[g]? = w.heap[g]?) := Lib.hid (fun g hg hne => (Below.heap_setCell wq ⟨B, 6, none⟩ _ g hne).trans (HBw.out.block g hg))
              have hI30 : (30 : Int) ≤ ((on : Nat) : Int) := by omega
              clear HPos HNo HRR HCq HIq HFr
              go_wp2
              (try simp only [Exit.inBlock, Exit.then])
              first | refine bodyPost_ret (results_none rfl _ _ _) rfl ?_ | refine bodyPost_end (results_none rfl _ _ _) rfl ?_
              exact AddPost.mk HI9.out HR9.out hb9 HF9.out
            · skip
              have HR9 : Hid ((((ps.take (p) ++ (.slice xa xn xc, cq) :: ps.drop (p)).map (·.2)), false) = RR) := Lib.hid (by rw [HRR.out]; unfold addO; rw [HPos.out, if_neg HNo.out, if_neg (by rw [List.length_map, ← Hon.out]; exact h30), List.map_append, List.map_cons, List.map_take, List.map_drop])
              have c5 : wq.cell? ⟨B, 5, none⟩ = some (.slice (some ⟨g, 0, none⟩) on oc) := HIq.out.box.2.1 5
              have hBl := HIq.out.box.1
              have hszq := HIq.out.kw
              have hI30 : ¬ (30 : Int) ≤ ((on : Nat) : Int) := by omega
              go_wp2_with (at_builtin; refine wpList_app_lists rfl _ _ rfl wq.heap.size _ 0 [] rfl (World.ownsRow_lit wq #[] 0 (Nat.le_refl _) (by decide) rfl) _ (p) _ _ rfl (((HIq.out.row).below (below_allocP' _ _)).readsTq hkn) (HIq.out.row.one _ (fun q hq => List.mem_of_mem_take hq)) (by omega) (by simp) ?_)
              intro a4 n4 c4 w4 hn4 ho4 hg4 _
              have hb4 : Below wq.heap.size wq w4 := ((Below.refl _ _).alloc (Nat.le_refl _) _).grown hg4 (by simp) (fun g hg => by simp [Value.ownBlock] at hg; omega)
              have HO4 : Hid (w4.ownsRow wq.heap.size 35 1 (.slice a4 n4 c4) (p) ((ps.take (p)).map (·.1))) := Lib.hid (by simpa using ho4)
              clear ho4 hg4 hn4
              have hs4 := hb4.size
              have c5' := cell_then hBl c5 hb4
              clear c5
              go_wp2_with (at_builtin; refine wpList_app_lists rfl _ _ rfl wq.heap.size _ _ _ rfl (HO4.out.alloc _) _ 1 1 [.slice xa xn xc] rfl (oneList _ _ _) (by intro y hy; simp at hy; subst hy; rfl) (by omega) (by simp; omega) ?_)
              intro a5 n5 c5 w5 hn5 ho5 hg5 _
              have hb5 : Below wq.heap.size wq w5 := (hb4.alloc (by omega) _).grown hg5 (by simp; omega) (fun g hg => (World.ownsRow.lt HO4.out g hg).1)
              have HO5 := Lib.hid ho5
              clear ho5 hg5 hn5 c5'
              have c55 : w5.cell? ⟨B, 5, none⟩ = some (.slice (some ⟨g, 0, none⟩) on oc) := cell_then hBl (HIq.out.box.2.1 5) hb5
              go_wp2_with (at_builtin; refine wpList_app_lists rfl _ _ rfl wq.heap.size _ _ _ rfl HO5.out _ ((on - p)) _ _ rfl (RD2.out _ hb5) (HIq.out.row.one _ (fun q hq => List.mem_of_mem_drop hq)) (by omega) hb5.size ?_)
              intro a6 n6 c6 w6 hn6 ho6 hg6 hl6
              have hb6 : Below wq.heap.size wq w6 := hb5.grown hg6 hb5.size (fun g hg => (World.ownsRow.lt HO5.out g hg).1)
              have HRow : Hid (RowP w6 K (.slice a6 n6 c6) (ps.take (p) ++ (.slice xa xn xc, cq) :: ps.drop (p))) := Lib.hid (HIq.out.row.put (p := p) (v' := .slice a6 n6 c6) HCq.out ⟨_, _, _, rfl⟩ HFr.out hb6 (by
                have e : (p) + 1 + ((on - p)) = ps.length + 1 := by have := Hon.out; omega
                try rw [e] at ho6
                first | simpa using ho6 | simpa [← List.map_drop, hdn] using ho6 | simpa [hps0] using ho6) hszq)
              have hblk : ∀ g, (Value.slice a6 n6 c6).ownBlock = some g → wq.heap.size ≤ g := fun g hg => by
                rcases hl6 with e | e
                · exact (World.ownsRow.lt HO5.out g (by rw [← e]; exact hg)).1
                · rw [e] at hg; injection hg with hg; have := hb5.size; omega
              have HI9 := Lib.hid (WInv.putRow HIw.out (HBw.out.trans' hb6) HRow.out ⟨_, _, _, rfl⟩ (fun g hg => by
                rcases hg with hg | ⟨q, hq, hg⟩
                · right
                  have h1 := hblk g hg
                  have h2 := HBw.out.size
                  omega
                · rcases List.mem_append.1 hq with h | h
                  · exact .inl (.inr ⟨q, List.mem_of_mem_take h, hg⟩)
                  · rcases List.mem_cons.1 h with rfl | h
                    · right
                      exact HCf.out g hg
                    · exact .inl (.inr ⟨q, List.mem_of_mem_drop h, hg⟩)) (by have := Hon.out; simp; omega))
              have hb9 : Below K w (w6.setCell ⟨B, 5, none⟩ (.slice a6 n6 c6)) := (hbq.trans (hb6.mono hszq)).setCell (p := ⟨B, 5, none⟩) HIq.out.kB _
              have HF9 : Hid (∀ g, g < w.heap.size → g ≠ B → (w6.setCell ⟨B, 5, none⟩ (.slice a6 n6 c6)).heap[g]? = w.heap[g]?) := Lib.hid (fun g hg hne => (Below.heap_setCell w6 ⟨B, 5, none⟩ _ g hne).trans ((HBw.out.trans' hb6).block g hg))
              have c56 : w6.cell? ⟨B, 5, none⟩ = some (.slice (some ⟨g, 0, none⟩) on oc) := cell_then hBl (HIq.out.box.2.1 5) hb6
              have f56 : w6.frozen? ⟨B, 5, none⟩ = false := (hb6.frozen (p := ⟨B, 5, none⟩) hBl).trans (HIq.out.box.2.2 5)
              have hBl6 := Nat.lt_of_lt_of_le hBl hb6.size
              clear hn6 ho6 hg6 hl6 HO5 HO4 HRow HPos HNo HRR HCq HIq HFr HIw HBw HCf c55 hblk
              go_wp2
              (try simp only [Exit.inBlock, Exit.then])
              first | refine bodyPost_ret (results_none rfl _ _ _) rfl ?_ | refine bodyPost_end (results_none rfl _ _ _) rfl ?_
              exact AddPost.mk HI9.out HR9.out hb9 HF9.out
          · skip
            have heq := (same2_iff eqI eqI_iff _ _).1 hsm
            rw [hsm] at HK2
            go_wp2_with fail
            refine HK2.out.mono ?_
            rintro e wq4 ⟨rfl, hb4⟩
            have HI9 := Lib.hid (HIq.out.below hb4)
            have HR9 : Hid ((ps.map (·.2), false) = RR) := Lib.hid (by rw [HRR.out]; unfold addO; rw [HPos.out, if_pos ⟨by rw [List.length_map]; exact hkp, heq⟩])
            have hb9 : Below K w wq4 := hbq.trans (hb4.mono HIq.out.kw)
            have HF9 : Hid (∀ g, g < w.heap.size → g ≠ B → wq4.heap[g]? = w.heap[g]?) := Lib.hid (fun g hg _ => (HBw.out.trans' hb4).block g hg)
            clear hsm heq HK2 e1 HPos HRR HCq HIq HFr hb4
            go_wp2
            (try simp only [Exit.inBlock, Exit.then])
            first | refine bodyPost_ret (results_none rfl _ _ _) rfl ?_ | refine bodyPost_end (results_none rfl _ _ _) rfl ?_
            exact AddPost.mk HI9.out HR9.out hb9 HF9.out
        · obtain rfl : p = on := by omega
          have hkn : p ≤ p := Nat.le_refl p
          have HNo : Hid (¬ (p < (ps.map (·.2)).length ∧ nth (ps.map (·.2)) p = cq)) := Lib.hid (fun h => by have h1 := h.1; rw [List.length_map, ← Hon.out] at h1; omega)
          have c5 : w3.cell? ⟨B, 5, none⟩ = some (.slice (some ⟨g, 0, none⟩) p oc) := HIq.out.box.2.1 5
          generalize hwe : w3 = wq at *
          clear hwe
          have hdn : ps.drop p = [] := List.drop_eq_nil_of_le (by rw [← Hon.out]; exact Nat.le_refl _)
          by_cases hcp : oc = p
          · subst hcp
            by_cases h30 : 30 ≤ oc
            · have HR9 : Hid ((ps.map (·.2), true) = RR) := Lib.hid (by rw [HRR.out]; unfold addO; rw [HPos.out, if_neg HNo.out, if_pos (by rw [List.length_map, ← Hon.out]; exact h30)])
              have c5 : wq.cell? ⟨B, 5, none⟩ = some (.slice (some ⟨g, 0, none⟩) oc oc) := HIq.out.box.2.1 5
              have c6 : wq.cell? ⟨B, 6, none⟩ = some (.bool false) := HIq.out.box.2.1 6
              have f6 : wq.frozen? ⟨B, 6, none⟩ = false := HIq.out.box.2.2 6
              have hBl := HIq.out.box.1
              have HI9 : Hid (WInv (wq.setCell ⟨B, 6, none⟩ (.bool true)) K B H m sv tv (.slice (some ⟨g, 0, none⟩) oc oc) true seen th ps) := Lib.hid ⟨HIq.out.box.set 6 (by simp) _, HIq.out.ss, own_off HIq.out.sts _ HIq.out.sB _, HIq.out.tl, own_off HIq.out.thr _ HIq.out.tB _, HIq.out.os, HIq.out.row.set (p := ⟨B, 6, none⟩) HIq.out.rB _, HIq.out.sB, HIq.out.tB, HIq.out.rB, HIq.out.st, HIq.out.rs, HIq.out.kB, HIq.out.le⟩
              have hb9 : Below K w (wq.setCell ⟨B, 6, none⟩ (.bool true)) := hbq.setCell (p := ⟨B, 6, none⟩) HIq.out.kB _
              have HF9 : Hid (∀ g, g < w.heap.size → g ≠ B → (wq.setCell ⟨B, 6, none⟩ (.bool true)).heap[g]? = w.heap[g]?) := Lib.hid (fun g hg hne => (Below.heap_setCell wq ⟨B, 6, none⟩ _ g hne).trans (HBw.out.block g hg))
              have hI30 : (30 : Int) ≤ ((oc : Nat) : Int) := by omega
              clear HPos HNo HRR HCq HIq HFr
              go_wp2
              (try simp only [Exit.inBlock, Exit.then])
              first | refine bodyPost_ret (results_none rfl _ _ _) rfl ?_ | refine bodyPost_end (results_none rfl _ _ _) rfl ?_
              exact AddPost.mk HI9.out HR9.out hb9 HF9.out
            · skip
              have HR9 : Hid ((((ps.take (oc) ++ (.slice xa xn xc, cq) :: ps.drop (oc)).map (·.2)), false) = RR) := Lib.hid (by rw [HRR.out]; unfold addO; rw [HPos.out, if_neg HNo.out, if_neg (by rw [List.length_map, ← Hon.out]; exact h30), List.map_append, List.map_cons, List.map_take, List.map_drop])
              have c5 : wq.cell? ⟨B, 5, none⟩ = some (.slice (some ⟨g, 0, none⟩) oc oc) := HIq.out.box.2.1 5
              have hBl := HIq.out.box.1
              have hszq := HIq.out.kw
              have hI30 : ¬ (30 : Int) ≤ ((oc : Nat) : Int) := by omega
              go_wp2_with (at_builtin; refine wpList_app_lists rfl _ _ rfl wq.heap.size _ 0 [] rfl (World.ownsRow_lit wq #[] 0 (Nat.le_refl _) (by decide) rfl) _ (oc) _ _ rfl (((HIq.out.row).below (below_allocP' _ _)).readsTq hkn) (HIq.out.row.one _ (fun q hq => List.mem_of_mem_take hq)) (by omega) (by simp) ?_)
              intro a4 n4 c4 w4 hn4 ho4 hg4 _
              have hb4 : Below wq.heap.size wq w4 := ((Below.refl _ _).alloc (Nat.le_refl _) _).grown hg4 (by simp) (fun g hg => by simp [Value.ownBlock] at hg; omega)
              have HO4 : Hid (w4.ownsRow wq.heap.size 35 1 (.slice a4 n4 c4) (oc) ((ps.take (oc)).map (·.1))) := Lib.hid (by simpa using ho4)
              clear ho4 hg4 hn4
              have hs4 := hb4.size
              have c5' := cell_then hBl c5 hb4
              clear c5
              go_wp2_with (at_builtin; refine wpList_app_lists rfl _ _ rfl wq.heap.size _ _ _ rfl (HO4.out.alloc _) _ 1 1 [.slice xa xn xc] rfl (oneList _ _ _) (by intro y hy; simp at hy; subst hy; rfl) (by omega) (by simp; omega) ?_)
              intro a5 n5 c5 w5 hn5 ho5 hg5 _
              have hb5 : Below wq.heap.size wq w5 := (hb4.alloc (by omega) _).grown hg5 (by simp; omega) (fun g hg => (World.ownsRow.lt HO4.out g hg).1)
              have HO5 := Lib.hid ho5
              clear ho5 hg5 hn5 c5'
              have c55 : w5.cell? ⟨B, 5, none⟩ = some (.slice (some ⟨g, 0, none⟩) oc oc) := cell_then hBl (HIq.out.box.2.1 5) hb5
              go_wp2_with (at_builtin; refine wpList_app_lists rfl _ _ rfl wq.heap.size _ _ _ rfl HO5.out _ (0) _ _ rfl ((by rw [hdn]; exact ⟨rfl, fun h => absurd h (Nat.lt_irrefl _)⟩)) (HIq.out.row.one _ (fun q hq => List.mem_of_mem_drop hq)) (by omega) hb5.size ?_)
              intro a6 n6 c6 w6 hn6 ho6 hg6 hl6
              have hb6 : Below wq.heap.size wq w6 := hb5.grown hg6 hb5.size (fun g hg => (World.ownsRow.lt HO5.out g hg).1)
              have HRow : Hid (RowP w6 K (.slice a6 n6 c6) (ps.take (oc) ++ (.slice xa xn xc, cq) :: ps.drop (oc))) := Lib.hid (HIq.out.row.put (p := oc) (v' := .slice a6 n6 c6) HCq.out ⟨_, _, _, rfl⟩ HFr.out hb6 (by
                have e : (oc) + 1 + (0) = ps.length + 1 := by have := Hon.out; omega
                try rw [e] at ho6
                first | simpa using ho6 | simpa [← List.map_drop, hdn] using ho6 | simpa [hps0] using ho6) hszq)
              have hblk : ∀ g, (Value.slice a6 n6 c6).ownBlock = some g → wq.heap.size ≤ g := fun g hg => by
                rcases hl6 with e | e
                · exact (World.ownsRow.lt HO5.out g (by rw [← e]; exact hg)).1
                · rw [e] at hg; injection hg with hg; have := hb5.size; omega
              have HI9 := Lib.hid (WInv.putRow HIw.out (HBw.out.trans' hb6) HRow.out ⟨_, _, _, rfl⟩ (fun g hg => by
                rcases hg with hg | ⟨q, hq, hg⟩
                · right
                  have h1 := hblk g hg
                  have h2 := HBw.out.size
                  omega
                · rcases List.mem_append.1 hq with h | h
                  · exact .inl (.inr ⟨q, List.mem_of_mem_take h, hg⟩)
                  · rcases List.mem_cons.1 h with rfl | h
                    · right
                      exact HCf.out g hg
                    · exact .inl (.inr ⟨q, List.mem_of_mem_drop h, hg⟩)) (by have := Hon.out; simp; omega))
              have hb9 : Below K w (w6.setCell ⟨B, 5, none⟩ (.slice a6 n6 c6)) := (hbq.trans (hb6.mono hszq)).setCell (p := ⟨B, 5, none⟩) HIq.out.kB _
              have HF9 : Hid (∀ g, g < w.heap.size → g ≠ B → (w6.setCell ⟨B, 5, none⟩ (.slice a6 n6 c6)).heap[g]? = w.heap[g]?) := Lib.hid (fun g hg hne => (Below.heap_setCell w6 ⟨B, 5, none⟩ _ g hne).trans ((HBw.out.trans' hb6).block g hg))
              have c56 : w6.cell? ⟨B, 5, none⟩ = some (.slice (some ⟨g, 0, none⟩) oc oc) := cell_then hBl (HIq.out.box.2.1 5) hb6
              have f56 : w6.frozen? ⟨B, 5, none⟩ = false := (hb6.frozen (p := ⟨B, 5, none⟩) hBl).trans (HIq.out.box.2.2 5)
              have hBl6 := Nat.lt_of_lt_of_le hBl hb6.size
              clear hn6 ho6 hg6 hl6 HO5 HO4 HRow HPos HNo HRR HCq HIq HFr HIw HBw HCf c55 hblk
              go_wp2
              (try simp only [Exit.inBlock, Exit.then])
              first | refine bodyPost_ret (results_none rfl _ _ _) rfl ?_ | refine bodyPost_end (results_none rfl _ _ _) rfl ?_
              exact AddPost.mk HI9.out HR9.out hb9 HF9.out
          · skip
            by_cases h30 : 30 ≤ p
            · have HR9 : Hid ((ps.map (·.2), true) = RR) := Lib.hid (by rw [HRR.out]; unfold addO; rw [HPos.out, if_neg HNo.out, if_pos (by rw [List.length_map, ← Hon.out]; exact h30)])
              have c5 : wq.cell? ⟨B, 5, none⟩ = some (.slice (some ⟨g, 0, none⟩) p oc) := HIq.out.box.2.1 5
              have c6 : wq.cell? ⟨B, 6, none⟩ = some (.bool false) := HIq.out.box.2.1 6
              have f6 : wq.frozen? ⟨B, 6, none⟩ = false := HIq.out.box.2.2 6
              have hBl := HIq.out.box.1
              have HI9 : Hid (WInv (wq.setCell ⟨B, 6, none⟩ (.bool true)) K B H m sv tv (.slice (some ⟨g, 0, none⟩) p oc) true seen th ps) := Lib.hid ⟨HIq.out.box.set 6 (by simp) _, HIq.out.ss, own_off HIq.out.sts _ HIq.out.sB _, HIq.out.tl, own_off HIq.out.thr _ HIq.out.tB _, HIq.out.os, HIq.out.row.set (p := ⟨B, 6, none⟩) HIq.out.rB _, HIq.out.sB, HIq.out.tB, HIq.out.rB, HIq.out.st, HIq.out.rs, HIq.out.kB, HIq.out.le⟩
              have hb9 : Below K w (wq.setCell ⟨B, 6, none⟩ (.bool true)) := hbq.setCell (p := ⟨B, 6, none⟩) HIq.out.kB _
              have HF9 : Hid (∀ g, g < w.heap.size → g ≠ B → (wq.setCell ⟨B, 6, none⟩ (.bool true)).heap[g]? = w.heap[g]?) := Lib.hid (fun g hg hne => (Below.heap_setCell wq ⟨B, 6, none⟩ _ g hne).trans (HBw.out.block g hg))
              have hI30 : (30 : Int) ≤ ((p : Nat) : Int) := by omega
              clear HPos HNo HRR HCq HIq HFr
              go_wp2
              (try simp only [Exit.inBlock, Exit.then])
              first | refine bodyPost_ret (results_none rfl _ _ _) rfl ?_ | refine bodyPost_end (results_none rfl _ _ _) rfl ?_
              exact AddPost.mk HI9.out HR9.out hb9 HF9.out
            · skip
              have HR9 : Hid ((((ps.take (p) ++ (.slice xa xn xc, cq) :: ps.drop (p)).map (·.2)), false) = RR) := Lib.hid (by rw [HRR.out]; unfold addO; rw [HPos.out, if_neg HNo.out, if_neg (by rw [List.length_map, ← Hon.out]; exact h30), List.map_append, List.map_cons, List.map_take, List.map_drop])
              have c5 : wq.cell? ⟨B, 5, none⟩ = some (.slice (some ⟨g, 0, none⟩) p oc) := HIq.out.box.2.1 5
              have hBl := HIq.out.box.1
              have hszq := HIq.out.kw
              have hI30 : ¬ (30 : Int) ≤ ((p : Nat) : Int) := by omega
              go_wp2_with (at_builtin; refine wpList_app_lists rfl _ _ rfl wq.heap.size _ 0 [] rfl (World.ownsRow_lit wq #[] 0 (Nat.le_refl _) (by decide) rfl) _ (p) _ _ rfl (((HIq.out.row).below (below_allocP' _ _)).readsTq hkn) (HIq.out.row.one _ (fun q hq => List.mem_of_mem_take hq)) (by omega) (by simp) ?_)
              intro a4 n4 c4 w4 hn4 ho4 hg4 _
              have hb4 : Below wq.heap.size wq w4 := ((Below.refl _ _).alloc (Nat.le_refl _) _).grown hg4 (by simp) (fun g hg => by simp [Value.ownBlock] at hg; omega)
              have HO4 : Hid (w4.ownsRow wq.heap.size 35 1 (.slice a4 n4 c4) (p) ((ps.take (p)).map (·.1))) := Lib.hid (by simpa using ho4)
              clear ho4 hg4 hn4
              have hs4 := hb4.size
              have c5' := cell_then hBl c5 hb4
              clear c5
              go_wp2_with (at_builtin; refine wpList_app_lists rfl _ _ rfl wq.heap.size _ _ _ rfl (HO4.out.alloc _) _ 1 1 [.slice xa xn xc] rfl (oneList _ _ _) (by intro y hy; simp at hy; subst hy; rfl) (by omega) (by simp; omega) ?_)
              intro a5 n5 c5 w5 hn5 ho5 hg5 _
              have hb5 : Below wq.heap.size wq w5 := (hb4.alloc (by omega) _).grown hg5 (by simp; omega) (fun g hg => (World.ownsRow.lt HO4.out g hg).1)
              have HO5 := Lib.hid ho5
              clear ho5 hg5 hn5 c5'
              have c55 : w5.cell? ⟨B, 5, none⟩ = some (.slice (some ⟨g, 0, none⟩) p oc) := cell_then hBl (HIq.out.box.2.1 5) hb5
              go_wp2_with (at_builtin; refine wpList_app_lists rfl _ _ rfl wq.heap.size _ _ _ rfl HO5.out _ (0) _ _ rfl ((by rw [hdn]; exact ⟨rfl, fun h => absurd h (Nat.lt_irrefl _)⟩)) (HIq.out.row.one _ (fun q hq => List.mem_of_mem_drop hq)) (by omega) hb5.size ?_)
              intro a6 n6 c6 w6 hn6 ho6 hg6 hl6
              have hb6 : Below wq.heap.size wq w6 := hb5.grown hg6 hb5.size (fun g hg => (World.ownsRow.lt HO5.out g hg).1)
              have HRow : Hid (RowP w6 K (.slice a6 n6 c6) (ps.take (p) ++ (.slice xa xn xc, cq) :: ps.drop (p))) := Lib.hid (HIq.out.row.put (p := p) (v' := .slice a6 n6 c6) HCq.out ⟨_, _, _, rfl⟩ HFr.out hb6 (by
                have e : (p) + 1 + (0) = ps.length + 1 := by have := Hon.out; omega
                try rw [e] at ho6
                first | simpa using ho6 | simpa [← List.map_drop, hdn] using ho6 | simpa [hps0] using ho6) hszq)
              have hblk : ∀ g, (Value.slice a6 n6 c6).ownBlock = some g → wq.heap.size ≤ g := fun g hg => by
                rcases hl6 with e | e
                · exact (World.ownsRow.lt HO5.out g (by rw [← e]; exact hg)).1
                · rw [e] at hg; injection hg with hg; have := hb5.size; omega
              have HI9 := Lib.hid (WInv.putRow HIw.out (HBw.out.trans' hb6) HRow.out ⟨_, _, _, rfl⟩ (fun g hg => by
                rcases hg with hg | ⟨q, hq, hg⟩
                · right
                  have h1 := hblk g hg
                  have h2 := HBw.out.size
                  omega
                · rcases List.mem_append.1 hq with h | h
                  · exact .inl (.inr ⟨q, List.mem_of_mem_take h, hg⟩)
                  · rcases List.mem_cons.1 h with rfl | h
                    · right
                      exact HCf.out g hg
                    · exact .inl (.inr ⟨q, List.mem_of_mem_drop h, hg⟩)) (by have := Hon.out; simp; omega))
              have hb9 : Below K w (w6.setCell ⟨B, 5, none⟩ (.slice a6 n6 c6)) := (hbq.trans (hb6.mono hszq)).setCell (p := ⟨B, 5, none⟩) HIq.out.kB _
              have HF9 : Hid (∀ g, g < w.heap.size → g ≠ B → (w6.setCell ⟨B, 5, none⟩ (.slice a6 n6 c6)).heap[g]? = w.heap[g]?) := Lib.hid (fun g hg hne => (Below.heap_setCell w6 ⟨B, 5, none⟩ _ g hne).trans ((HBw.out.trans' hb6).block g hg))
              have c56 : w6.cell? ⟨B, 5, none⟩ = some (.slice (some ⟨g, 0, none⟩) p oc) := cell_then hBl (HIq.out.box.2.1 5) hb6
              have f56 : w6.frozen? ⟨B, 5, none⟩ = false := (hb6.frozen (p := ⟨B, 5, none⟩) hBl).trans (HIq.out.box.2.2 5)
              have hBl6 := Nat.lt_of_lt_of_le hBl hb6.size
              clear hn6 ho6 hg6 hl6 HO5 HO4 HRow HPos HNo HRR HCq HIq HFr HIw HBw HCf c55 hblk
              go_wp2
              (try simp only [Exit.inBlock, Exit.then])
              first | refine bodyPost_ret (results_none rfl _ _ _) rfl ?_ | refine bodyPost_end (results_none rfl _ _ _) rfl ?_
              exact AddPost.mk HI9.out HR9.out hb9 HF9.out
      · rw [if_neg hgt] at hps
        have HP2 : Hid (posC (ps.map (·.2)) cq (ps.map (·.2)).length = posC (ps.map (·.2)) cq (p - 1)) := Lib.hid (by rw [HP.out, hps])
        have hz : 0 ≤ z := by omega
        clear hps HP hgt
        go_wp2_with fail
        refine HK.out.mono ?_
        rintro e w3 ⟨rfl, hb3⟩
        have hbq3 := bthen hbr hb3
        clear HK e1 c5 HIr HXr HBwr hb3 hbr hbrK
        go_wp2
        exact ⟨⟨p - 1, by go_num, by omega, HP2, hbq3⟩, by simp [intOf]; omega⟩
end Go.Proofs.Ythdejhningghcaa
