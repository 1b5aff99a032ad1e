import Derived.Test.YthdejhningghcaaMg31
import Derived.Test.YthdejhningghcaaMg30
import Derived.Test.YthdejhningghcaaMg33
import Derived.Test.YthdejhningghcaaMg34
/- PrC: the memory of the search for prime patterns of the package impl: the struct that it is, the list at hand, what has been found. -/
namespace Go.Proofs.Ythdejhningghcaa
open Go.ChangeShapes Go.WideShapes Go.ChangeAt Go.RowKit

theorem own_heapP {w w' : World} {base : Nat} {e : TypeId} {size : Nat} {v : Value} {n : Nat} {xs : List Value} (h : w.ownsRow base e size v n xs) (hk : ∀ g, v.ownBlock = some g → w'.heap[g]? = w.heap[g]?) : w'.ownsRow base e size v n xs := by
  refine ⟨h.1, ?_⟩
  rcases h.2 with h2 | ⟨g, cap, cur, hv, hb, hg, r⟩
  · exact .inl h2
  · exact .inr ⟨g, cap, cur, hv, hb, by rw [hk g (by rw [hv]; rfl)]; exact hg, r⟩
section
variable {w w' : World} {base : Nat} {v : Value} {ps : List (Value × List Int)}
def RowBlk (v : Value) (ps : List (Value × List Int)) (g : Nat) : Prop := v.ownBlock = some g ∨ ∃ q ∈ ps, q.1.ownBlock = some g
theorem RowP.lt (h : RowP w base v ps) {g : Nat} (hg : RowBlk v ps g) : base ≤ g ∧ g < w.heap.size := by
  rcases hg with hg | ⟨q, hq, hg⟩
  · exact h.1.lt g hg
  · exact (h.2.1 q hq).2.1.lt g hg
theorem RowP.heap (h : RowP w base v ps) (hk : ∀ g, g < w.heap.size → RowBlk v ps g → w'.heap[g]? = w.heap[g]?) : RowP w' base v ps :=
  ⟨own_heapP h.1 (fun g hg => hk g (h.1.lt g hg).2 (.inl hg)), fun p hp => ⟨(h.2.1 p hp).1, own_heapP (h.2.1 p hp).2.1 (fun g hg => hk g ((h.2.1 p hp).2.1.lt g hg).2 (.inr ⟨p, hp, hg⟩)), (h.2.1 p hp).2.2⟩, h.2.2⟩
theorem RowP.set (h : RowP w base v ps) {p : Addr} (ha : ∀ g, RowBlk v ps g → g ≠ p.block) (u : Value) : RowP (w.setCell p u) base v ps :=
  h.heap (fun g _ hk => Below.heap_setCell w p u g (ha g hk))
theorem RowP.grown (h : RowP w base v ps) {row : Option Nat} (ha : ∀ g, RowBlk v ps g → row ≠ some g) (hg : w.grownBy w' row) : RowP w' base v ps :=
  h.heap (fun g hgs hk => hg.block g hgs (fun e => ha g hk e.symm))
theorem RowP.snoc {v' xv : Value} {x : List Int} (h : RowP w base v ps) (hx : OwnInts w base xv x) (hxs : ∃ pa pn pc, xv = .slice pa pn pc) (hfr : ∀ q ∈ ps, ∀ g, q.1.ownBlock = some g → xv.ownBlock ≠ some g) (hxv : ∀ g, xv.ownBlock = some g → v.ownBlock ≠ some g)
    (hrow : w'.ownsRow base 35 1 v' (ps.length + 1) (ps.map (·.1) ++ [xv])) (hg : w.grownBy w' v.ownBlock) (hloc : v'.ownBlock = v.ownBlock ∨ v'.ownBlock = some w.heap.size) : RowP w' base v' (ps ++ [(xv, x)]) := by
  have hkeep : ∀ {e : TypeId} {size : Nat} {u : Value} {n : Nat} {xs : List Value}, w.ownsRow base e size u n xs → (∀ g, u.ownBlock = some g → v.ownBlock ≠ some g) → w'.ownsRow base e size u n xs ∧ ∀ g, u.ownBlock = some g → v'.ownBlock ≠ some g := by
    intro e size u n xs ho hne
    refine ⟨own_heapP ho (fun g hg' => hg.block g (ho.lt g hg').2 (fun e => hne g hg' e.symm)), fun g hg' e => ?_⟩
    rcases hloc with h1 | h1
    · exact hne g hg' (by rw [← h1]; exact e)
    · rw [h1] at e
      injection e with e
      have := (ho.lt g hg').2
      omega
  refine ⟨by rw [List.length_append, List.map_append]; exact hrow, fun p hp => ?_, ?_⟩
  · rcases List.mem_append.1 hp with hp | hp
    · obtain ⟨h1, h2, h3⟩ := h.2.1 p hp
      exact ⟨h1, hkeep h2 h3⟩
    · rw [List.mem_singleton.1 hp]
      exact ⟨hxs, hkeep hx hxv⟩
  · rw [List.pairwise_append]
    refine ⟨h.2.2, List.pairwise_singleton _ _, fun p hp q hq g hg' => ?_⟩
    rw [List.mem_singleton.1 hq]
    exact hfr p hp g hg'
end
/-- The search: its struct in block B, what is taken in block TB. -/
structure SBox (w : World) (B TB P H : Nat) (lv fv : Value) (tk : Nat → Bool) : Prop where
  lt : B < w.heap.size
  c0 : w.cell? ⟨B, 0, none⟩ = some (.int .i64 P)
  c1 : w.cell? ⟨B, 1, none⟩ = some (.int .i64 H)
  c2 : w.cell? ⟨B, 2, none⟩ = some lv
  c3 : w.cell? ⟨B, 3, none⟩ = some (.slice (some ⟨TB, 0, none⟩) P P)
  c4 : w.cell? ⟨B, 4, none⟩ = some fv
  fz : ∀ j, w.frozen? ⟨B, j, none⟩ = false
  tlt : TB < w.heap.size
  ct : ∀ j, j < P → w.cell? ⟨TB, j, none⟩ = some (.bool (tk j))
  tf : ∀ j, w.frozen? ⟨TB, j, none⟩ = false
  ne : B ≠ TB
section
variable {w w' : World} {B TB P H : Nat} {lv fv : Value} {tk : Nat → Bool}
theorem SBox.heap (h : SBox w B TB P H lv fv tk) (hs : w.heap.size ≤ w'.heap.size) (hB : w'.heap[B]? = w.heap[B]?) (hT : w'.heap[TB]? = w.heap[TB]?) : SBox w' B TB P H lv fv tk := by
  have k : ∀ j, w'.cell? ⟨B, j, none⟩ = w.cell? ⟨B, j, none⟩ := fun j => World.cell?_of_block hB
  have f : ∀ j, w'.frozen? ⟨B, j, none⟩ = w.frozen? ⟨B, j, none⟩ := fun j => World.frozen?_of_block hB
  have k2 : ∀ j, w'.cell? ⟨TB, j, none⟩ = w.cell? ⟨TB, j, none⟩ := fun j => World.cell?_of_block hT
  have f2 : ∀ j, w'.frozen? ⟨TB, j, none⟩ = w.frozen? ⟨TB, j, none⟩ := fun j => World.frozen?_of_block hT
  exact ⟨Nat.lt_of_lt_of_le h.lt hs, (k _).trans h.c0, (k _).trans h.c1, (k _).trans h.c2, (k _).trans h.c3, (k _).trans h.c4, fun j => (f j).trans (h.fz j), Nat.lt_of_lt_of_le h.tlt hs, fun j hj => (k2 j).trans (h.ct j hj), fun j => (f2 j).trans (h.tf j), h.ne⟩
theorem SBox.below (h : SBox w B TB P H lv fv tk) (hb : Below w.heap.size w w') : SBox w' B TB P H lv fv tk := h.heap hb.size (hb.block B h.lt) (hb.block TB h.tlt)
theorem SBox.grown {row : Option Nat} (h : SBox w B TB P H lv fv tk) (hg : w.grownBy w' row) (h1 : row ≠ some B) (h2 : row ≠ some TB) : SBox w' B TB P H lv fv tk := h.heap hg.size (hg.block B h.lt (fun e => h1 e.symm)) (hg.block TB h.tlt (fun e => h2 e.symm))
theorem SBox.setL (h : SBox w B TB P H lv fv tk) (lv' : Value) : SBox (w.setCell ⟨B, 2, none⟩ lv') B TB P H lv' fv tk := by
  have k : ∀ j, 2 ≠ j → (w.setCell ⟨B, 2, none⟩ lv').cell? ⟨B, j, none⟩ = w.cell? ⟨B, j, none⟩ := fun j hj => World.cell?_setCell_other w ⟨B, 2, none⟩ ⟨B, j, none⟩ lv' (fun e => hj (congrArg Addr.off e))
  have k2 : ∀ j, (w.setCell ⟨B, 2, none⟩ lv').cell? ⟨TB, j, none⟩ = w.cell? ⟨TB, j, none⟩ := fun j => World.cell?_setCell_other w ⟨B, 2, none⟩ ⟨TB, j, none⟩ lv' (fun e => h.ne (congrArg Addr.block e))
  exact ⟨by simpa [World.setCell] using h.lt, (k _ (by decide)).trans h.c0, (k _ (by decide)).trans h.c1, World.cell?_setCell_same' w ⟨B, 2, none⟩ _ (by rw [h.c2]; rfl), (k _ (by decide)).trans h.c3, (k _ (by decide)).trans h.c4, fun j => (World.frozen?_setCell _ _ _ _).trans (h.fz j), by simpa [World.setCell] using h.tlt, fun j hj => (k2 j).trans (h.ct j hj), fun j => (World.frozen?_setCell _ _ _ _).trans (h.tf j), h.ne⟩
theorem SBox.setT (h : SBox w B TB P H lv fv tk) (r : Nat) (hr : r < P) (x : Bool) : SBox (w.setCell ⟨TB, r, none⟩ (.bool x)) B TB P H lv fv (fun j => if j = r then x else tk j) := by
  have k : ∀ j, (w.setCell ⟨TB, r, none⟩ (.bool x)).cell? ⟨B, j, none⟩ = w.cell? ⟨B, j, none⟩ := fun j => World.cell?_setCell_other w ⟨TB, r, none⟩ ⟨B, j, none⟩ _ (fun e => h.ne (congrArg Addr.block e).symm)
  refine ⟨by simpa [World.setCell] using h.lt, (k _).trans h.c0, (k _).trans h.c1, (k _).trans h.c2, (k _).trans h.c3, (k _).trans h.c4, fun j => (World.frozen?_setCell _ _ _ _).trans (h.fz j), by simpa [World.setCell] using h.tlt, fun j hj => ?_, fun j => (World.frozen?_setCell _ _ _ _).trans (h.tf j), h.ne⟩
  by_cases e : j = r
  · subst e
    simp only [if_true]
    exact World.cell?_setCell_same' w ⟨TB, j, none⟩ _ (by rw [h.ct j hj]; rfl)
  · simp only [if_neg e]
    exact (World.cell?_setCell_other w ⟨TB, r, none⟩ ⟨TB, j, none⟩ _ (fun e2 => e (congrArg Addr.off e2).symm)).trans (h.ct j hj)
end
/-- The search, its list, what it has found; no two of these in one block. -/
structure SInv (w : World) (K B TB OB P H : Nat) (lv fn fv : Value) (ps : List (Value × List Int)) (L : List Int) (tk : Nat → Bool) : Prop where
  box : SBox w B TB P H lv fn tk
  ls : ∃ a n c, lv = .slice a n c
  list : OwnInts w K lv L
  lB : lv.ownBlock ≠ some B
  lT : lv.ownBlock ≠ some TB
  lO : lv.ownBlock ≠ some OB
  ob : BoxIs w OB [fv]
  fs : ∃ a n c, fv = .slice a n c
  row : RowP w K fv ps
  far : ∀ g, RowBlk fv ps g → g ≠ B ∧ g ≠ TB ∧ g ≠ OB ∧ lv.ownBlock ≠ some g
  nB : B ≠ OB
  nT : TB ≠ OB
  kB : K ≤ B ∧ K ≤ TB ∧ K ≤ OB
section
variable {w w' : World} {K B TB OB P H : Nat} {lv fn fv : Value} {ps : List (Value × List Int)} {L : List Int} {tk : Nat → Bool}
theorem SInv.below (h : SInv w K B TB OB P H lv fn fv ps L tk) (hb : Below w.heap.size w w') : SInv w' K B TB OB P H lv fn fv ps L tk :=
  ⟨h.box.below hb, h.ls, own_below h.list hb, h.lB, h.lT, h.lO, h.ob.below hb, h.fs, h.row.below hb, h.far, h.nB, h.nT, h.kB⟩
/-- 's.taken[to], s.list = true, append(s.list, t)'. -/
theorem SInv.take {x2 : World} {lv' : Value} {L' : List Int} (h : SInv w K B TB OB P H lv fn fv ps L tk) (ho : OwnInts x2 K lv' L') (hg : w.grownBy x2 lv.ownBlock) (hloc : lv'.ownBlock = lv.ownBlock ∨ lv'.ownBlock = some w.heap.size) (hsl : ∃ a n c, lv' = .slice a n c) (r : Nat) (hr : r < P) (x : Bool) :
    SInv ((x2.setCell ⟨TB, r, none⟩ (.bool x)).setCell ⟨B, 2, none⟩ lv') K B TB OB P H lv' fn fv ps L' (fun j => if j = r then x else tk j) := by
  have hnew : ∀ g, g < w.heap.size → lv.ownBlock ≠ some g → lv'.ownBlock ≠ some g := fun g hg' hne e => by
    rcases hloc with e2 | e2
    · exact hne (by rw [← e2]; exact e)
    · rw [e2] at e; injection e with e; omega
  have hlB := hnew B h.box.lt h.lB
  have hlT := hnew TB h.box.tlt h.lT
  have hlO := hnew OB h.ob.1 h.lO
  refine ⟨((h.box.grown hg h.lB h.lT).setT r hr x).setL lv', hsl, own_off (own_off ho _ hlT _) _ hlB _, hlB, hlT, hlO, ?_, h.fs, ?_, fun g hg' => ?_, h.nB, h.nT, h.kB⟩
  · have h1 : BoxIs x2 OB [fv] := ⟨Nat.lt_of_lt_of_le h.ob.1 hg.size, fun j => (World.cell?_of_block (a := ⟨OB, j, none⟩) (hg.block OB h.ob.1 (fun e => h.lO e.symm))).trans (h.ob.2.1 j), fun j => (World.frozen?_of_block (a := ⟨OB, j, none⟩) (hg.block OB h.ob.1 (fun e => h.lO e.symm))).trans (h.ob.2.2 j)⟩
    exact (h1.set_other (c := TB) h.nT r _).set_other (c := B) h.nB 2 _
  · exact ((h.row.grown (fun g hk => (h.far g hk).2.2.2) hg).set (p := ⟨TB, r, none⟩) (fun g hk => (h.far g hk).2.1) _).set (p := ⟨B, 2, none⟩) (fun g hk => (h.far g hk).1) _
  · obtain ⟨a, b, c, d⟩ := h.far g hg'
    exact ⟨a, b, c, hnew g (h.row.lt hg').2 d⟩
/-- 's.taken[to], s.list = false, s.list[:at]'. -/
theorem SInv.drop {g n c : Nat} (h : SInv w K B TB OB P H (.slice (some ⟨g, 0, none⟩) n c) fn fv ps L tk) (k : Nat) (hk : k ≤ L.length) (r : Nat) (hr : r < P) (x : Bool) :
    SInv ((w.setCell ⟨TB, r, none⟩ (.bool x)).setCell ⟨B, 2, none⟩ (.slice (some ⟨g, 0, none⟩) k c)) K B TB OB P H (.slice (some ⟨g, 0, none⟩) k c) fn fv ps (L.take k) (fun j => if j = r then x else tk j) := by
  have hc := own_cut h.list hk (by simp)
  refine ⟨(h.box.setT r hr x).setL _, ⟨_, _, _, rfl⟩, own_off (own_off hc ⟨TB, r, none⟩ h.lT _) ⟨B, 2, none⟩ h.lB _, h.lB, h.lT, h.lO, ?_, h.fs, ?_, h.far, h.nB, h.nT, h.kB⟩
  · exact (h.ob.set_other (c := TB) h.nT r _).set_other (c := B) h.nB 2 _
  · exact (h.row.set (p := ⟨TB, r, none⟩) (fun g hk => (h.far g hk).2.1) _).set (p := ⟨B, 2, none⟩) (fun g hk => (h.far g hk).1) _
end
/-- What the closure that finds leaves. -/
def FoundPost (K OB : Nat) (W : World) (fv : Value) (ps : List (Value × List Int)) (v : Value) (p : List Int) (e : Ending) (w' : World) : Prop :=
  e = .returned (.bool true) ∧ ∃ (fv' : Value) (ps' : List (Value × List Int)), ps'.map (·.2) = ps.map (·.2) ++ [p].filter implT ∧ (∃ a n c, fv' = .slice a n c) ∧ BoxIs w' OB [fv'] ∧ RowP w' K fv' ps' ∧ (∀ g, RowBlk fv' ps' g → RowBlk fv ps g ∨ v.ownBlock = some g ∨ W.heap.size ≤ g) ∧
    (∀ k, k < W.heap.size → k ≠ OB → fv.ownBlock ≠ some k → w'.heap[k]? = W.heap[k]?) ∧ Below K W w'
theorem found_inv {K B TB OB P H : Nat} {W x1 w' : World} {lv fn fv v : Value} {ps : List (Value × List Int)} {L p : List Int} {tk : Nat → Bool} {e : Ending} (h : SInv W K B TB OB P H lv fn fv ps L tk) (hb : Below W.heap.size W x1) (hv : OwnInts x1 W.heap.size v p) (hf : FoundPost K OB x1 fv ps v p e w') :
    ∃ fv' ps', SInv w' K B TB OB P H lv fn fv' ps' L tk ∧ ps'.map (·.2) = ps.map (·.2) ++ [p].filter implT := by
  obtain ⟨-, fv', ps', hps, hfs, hob, hrow, hblk, hk, hbk⟩ := hf
  have h1 := h.below hb
  have hs := hb.size
  have hB : w'.heap[B]? = x1.heap[B]? := hk B h1.box.lt h.nB (fun e => (h.far B (.inl e)).1 rfl)
  have hT : w'.heap[TB]? = x1.heap[TB]? := hk TB h1.box.tlt h.nT (fun e => (h.far TB (.inl e)).2.1 rfl)
  refine ⟨fv', ps', ⟨h1.box.heap hbk.size hB hT, h.ls, own_heapP h1.list (fun g hg => hk g (h1.list.lt g hg).2 (fun e => h.lO (by rw [hg, e])) (fun e => (h.far g (.inl e)).2.2.2 hg)), h.lB, h.lT, h.lO, hob, hfs, hrow, fun g hg => ?_, h.nB, h.nT, h.kB⟩, hps⟩
  rcases hblk g hg with h2 | h2 | h2
  · exact h.far g h2
  · have h3 := (hv.lt g h2).1
    have h4 := h.box.lt
    have h5 := h.box.tlt
    have h6 := h.ob.1
    refine ⟨by omega, by omega, by omega, fun e => ?_⟩
    have := (h.list.lt g e).2
    omega
  · have h4 := h1.box.lt
    have h5 := h1.box.tlt
    have h6 := h1.ob.1
    refine ⟨by omega, by omega, by omega, fun e => ?_⟩
    have := (h1.list.lt g e).2
    omega
set_option maxHeartbeats 1000000 in
theorem found_c (K OB : Nat) (pa : Option Addr) (pn pc : Nat) (fv : Value) (ps : List (Value × List Int)) (p : List Int) (w : World) (hv : OwnInts w K (.slice pa pn pc) p) (ho : okPat p = true) (hh : ∀ x ∈ p, x ≤ 10) (hfs : ∃ a n c, fv = .slice a n c) (hob : BoxIs w OB [fv]) (hrow : RowP w K fv ps)
    (hfar : ∀ g, RowBlk fv ps g → g ≠ OB ∧ (Value.slice pa pn pc).ownBlock ≠ some g) (hvo : (Value.slice pa pn pc).ownBlock ≠ some OB) (hK : K ≤ OB) (hl : ps.length ≤ 1000000) :
    Calls Try.prog 25 #[.slice pa pn pc, .pointer (some ⟨OB, 0, none⟩)] w (FoundPost K OB w fv ps (.slice pa pn pc) p) := by
  have hat := OwnInts.at hv
  obtain ⟨h1, h2, -⟩ := ok_in ho
  have HP := Lib.hid (isPrime_c _ p w hat ho hh)
  have HC := Lib.hid (fun W x => canonical_c (.slice pa pn pc) p W x h1 h2)
  have HV := Lib.hid hv
  have HOb := Lib.hid hob
  have HRow := Lib.hid hrow
  have HFar := Lib.hid hfar
  have Hvo := Lib.hid hvo
  obtain ⟨fa, fn, fc, rfl⟩ := hfs
  have hfn := hrow.len
  have Hfn := Lib.hid hfn
  have HK := Lib.hid (show K ≤ w.heap.size by have := hob.1; omega)
  have HIm : Hid (implT p = (primeB p && same2 eqI (canL p) p)) := Lib.hid rfl
  clear hat h1 h2 ho hh hv hob hrow hfar hvo hfn
  generalize primeB p = pr at *
  go_enter Try.func25, Try.ntmps25
  go_wp2_with fail
  refine HP.out.mono ?_
  rintro e w1 ⟨rfl, hb1⟩
  clear HP
  cases pr
  · have HR := Lib.hid (HRow.out.below hb1)
    have HO := Lib.hid (HOb.out.below hb1)
    have hbb := hb1.block
    have HBl := Lib.hid hbb
    have HBe : Hid (Below K w w1) := Lib.hid (hb1.mono HK.out)
    clear hbb hb1
    go_wp2
    go_ret
    exact ⟨rfl, _, ps, by rw [List.filter_cons, HIm.out]; simp, ⟨_, _, _, rfl⟩, HO.out, HR.out, fun g hg => .inl hg, fun k hk _ _ => HBl.out k hk, HBe.out⟩
  · go_wp2_with fail
    refine (HC.out w1 ((OwnInts.at HV.out).below hb1)).mono ?_
    rintro e w2 ⟨ca, cn, cc, rfl, hoc, hb2⟩
    have HCa := Lib.hid (OwnInts.at hoc)
    have hb := bthen hb1 hb2
    clear hoc hb1 hb2 HC
    go_wp2_with fail
    refine (iSame_c _ _ (canL p) p w2 HCa.out ((OwnInts.at HV.out).below hb)).mono ?_
    rintro e w3 ⟨rfl, hb3⟩
    have hb3' := bthen hb hb3
    clear hb hb3 HCa
    have HR := Lib.hid (HRow.out.below hb3')
    have HO := Lib.hid (HOb.out.below hb3')
    have HX := Lib.hid (own_below HV.out hb3')
    have HB3 := Lib.hid hb3'
    have hs3 := hb3'.size
    clear HV HRow HOb hb3'
    generalize same2 eqI (canL p) p = sm at *
    cases sm
    · have HBe : Hid (Below K w w3) := Lib.hid (HB3.out.mono HK.out)
      go_wp2
      go_ret
      exact ⟨rfl, _, ps, by rw [List.filter_cons, HIm.out]; simp, ⟨_, _, _, rfl⟩, HO.out, HR.out, fun g hg => .inl hg, fun k hk _ _ => HB3.out.block k hk, HBe.out⟩
    · have c0 : w3.cell? ⟨OB, 0, none⟩ = some (.slice fa fn fc) := HO.out.2.1 0
      have hol := HO.out.1
      go_wp2_with (at_builtin; refine wpList_app_lists rfl _ _ rfl K _ fn _ rfl (by have := (HR.out.1); rw [← Hfn.out] at this; exact World.ownsRow.alloc this _) _ 1 1 [.slice pa pn pc] rfl (oneList _ _ _) (by intro y hy; simp at hy; subst hy; rfl) (by have := Hfn.out; omega) (by have := HK.out; simp; omega) ?_)
      intro a5 n5 c5 w5 hn5 ho5 hg5 hl5
      subst hn5
      have hR0 := HR.out.below (show Below w3.heap.size w3 (w3.alloc (.cells #[.slice pa pn pc] 35)) by go_grown)
      have hX0 := own_below HX.out (show Below w3.heap.size w3 (w3.alloc (.cells #[.slice pa pn pc] 35)) by go_grown)
      have hR5 : RowP w5 K (.slice a5 (fn + 1) c5) (ps ++ [(.slice pa pn pc, p)]) := hR0.snoc hX0 ⟨_, _, _, rfl⟩ (fun q hq g hg e => (HFar.out g (.inr ⟨q, hq, hg⟩)).2 e) (fun g hg e => (HFar.out g (.inl e)).2 hg) (by rw [← Hfn.out]; exact ho5) hg5 (by simpa using hl5)
      have hOb5 : BoxIs w5 OB [.slice fa fn fc] := by
        have hk : w5.heap[OB]? = w3.heap[OB]? := (hg5.block OB (by simp; omega) (fun e => (HFar.out OB (.inl e.symm)).1 rfl)).trans (Below.heap_alloc _ _ _ hol)
        exact ⟨Nat.lt_of_lt_of_le hol (Nat.le_trans (by simp) hg5.size), fun j => (World.cell?_of_block (a := ⟨OB, j, none⟩) hk).trans (HO.out.2.1 j), fun j => (World.frozen?_of_block (a := ⟨OB, j, none⟩) hk).trans (HO.out.2.2 j)⟩
      have hnb : ∀ g, RowBlk (.slice a5 (fn + 1) c5) (ps ++ [(.slice pa pn pc, p)]) g → RowBlk (.slice fa fn fc) ps g ∨ (Value.slice pa pn pc).ownBlock = some g ∨ w3.heap.size ≤ g := by
        intro g hg
        rcases hg with hg | ⟨q, hq, hg⟩
        · rcases hl5 with e | e
          · exact .inl (.inl (by rw [← e]; exact hg))
          · rw [e] at hg; injection hg with hg
            exact .inr (.inr (by rw [← hg]; simp))
        · rcases List.mem_append.1 hq with h | h
          · exact .inl (.inr ⟨q, h, hg⟩)
          · rw [List.mem_singleton.1 h] at hg
            exact .inr (.inl hg)
      have HR9 := Lib.hid (hR5.set (p := ⟨OB, 0, none⟩) (fun g hg => by
        show g ≠ OB
        rcases hnb g hg with h | h | h
        · exact (HFar.out g h).1
        · exact fun e => Hvo.out (by rw [h, e])
        · omega) (.slice a5 (fn + 1) c5))
      have HO9 := Lib.hid (hOb5.set 0 (by simp) (.slice a5 (fn + 1) c5))
      have HFr : Hid (∀ k, k < w.heap.size → k ≠ OB → (Value.slice fa fn fc).ownBlock ≠ some k → (w5.setCell ⟨OB, 0, none⟩ (.slice a5 (fn + 1) c5)).heap[k]? = w.heap[k]?) := Lib.hid (fun k hk h1 h2 => by
        rw [Below.heap_setCell w5 ⟨OB, 0, none⟩ _ k h1, hg5.block k (by simp; omega) (fun e => h2 e.symm), Below.heap_alloc _ _ _ (by omega)]
        exact HB3.out.block k hk)
      have HBe : Hid (Below K w (w5.setCell ⟨OB, 0, none⟩ (.slice a5 (fn + 1) c5))) := Lib.hid ((((HB3.out.mono HK.out).alloc (by have := HK.out; omega) _).grown hg5 (by have := HK.out; simp; omega) (fun g hg => (HR.out.1.lt g hg).1)).setCell (p := ⟨OB, 0, none⟩) hK _)
      have HNb : Hid (∀ g, RowBlk (.slice a5 (fn + 1) c5) (ps ++ [(.slice pa pn pc, p)]) g → RowBlk (.slice fa fn fc) ps g ∨ (Value.slice pa pn pc).ownBlock = some g ∨ w.heap.size ≤ g) := Lib.hid (fun g hg => by
        rcases hnb g hg with h | h | h
        · exact .inl h
        · exact .inr (.inl h)
        · exact .inr (.inr (by omega)))
      have f0 := hOb5.2.2 0
      have c5' : w5.cell? ⟨OB, 0, none⟩ = some (.slice fa fn fc) := hOb5.2.1 0
      have hol5 := hOb5.1
      clear ho5 hg5 hl5 hR0 hX0 hR5 hOb5 hnb HR HO HX HB3 c0
      go_wp2
      go_ret
      exact ⟨rfl, _, _, by rw [List.filter_cons, HIm.out]; simp, ⟨_, _, _, rfl⟩, HO9.out, HR9.out, HNb.out, HFr.out, HBe.out⟩
end Go.Proofs.Ythdejhningghcaa
