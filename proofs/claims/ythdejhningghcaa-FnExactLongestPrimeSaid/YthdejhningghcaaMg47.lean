import Derived.Test.YthdejhningghcaaMg38
import Derived.Test.YthdejhningghcaaMg46
import Derived.Shelf.GgSortMore.Stable
import Derived.Ground.GgtProg
/- PrE: the prime patterns of the package impl: sorted lists put in order, the search. -/
namespace Go.Proofs.Ythdejhningghcaa
open Go.ChangeShapes Go.WideShapes Go.ChangeAt Go.RowKit Go.Lib Go.Shelf
open Go.Sort (swp PermIn)

def sl8q_ren : Go.Shelf.Ren := ⟨fun | 8 => 29 | 13 => 41 | 14 => 42 | 16 => 44 | 15 => 43 | 29 => 66 | 30 => 67 | 42 => 75 | 49 => 82 | n => n, fun | 20 => 20 | 26 => 44 | 36 => 65 | 0 => 0 | 38 => 67 | 42 => 71 | 3 => 3 | 4 => 4 | 47 => 73 | 17 => 17 | 33 => 62 | 34 => 63 | 89 => 106 | 12 => 12 | 56 => 98 | 82 => 99 | 5 => 5 | 83 => 100 | 84 => 101 | 85 => 102 | 86 => 103 | 87 => 104 | n => n, fun | n => n⟩
theorem sl8q : Go.Proofs.LaysGt.n8 Try.prog sl8q_ren := {
  mixed := by kernel_rfl
  f8 := Try.func29.trans (congrArg some (by kernel_rfl))
  f13 := Try.func41.trans (congrArg some (by kernel_rfl))
  f14 := Try.func42.trans (congrArg some (by kernel_rfl))
  f15 := Try.func43.trans (congrArg some (by kernel_rfl))
  f16 := Try.func44.trans (congrArg some (by kernel_rfl))
  f29 := Try.func66.trans (congrArg some (by kernel_rfl))
  f30 := Try.func67.trans (congrArg some (by kernel_rfl))
  f42 := Try.func75.trans (congrArg some (by kernel_rfl))
  f49 := Try.func82.trans (congrArg some (by kernel_rfl))
  t0 := Try.underlying0
  a0 := Try.isAgg0
  z0 := Try.sizeOf0
  v0 := Try.zeroValue0
  i0 := by kernel_rfl
  t3 := Try.underlying3
  a3 := Try.isAgg3
  z3 := Try.sizeOf3
  v3 := Try.zeroValue3
  i3 := by kernel_rfl
  t4 := Try.underlying4
  a4 := Try.isAgg4
  z4 := Try.sizeOf4
  v4 := Try.zeroValue4
  i4 := by kernel_rfl
  t5 := Try.underlying5
  a5 := Try.isAgg5
  z5 := Try.sizeOf5
  v5 := Try.zeroValue5
  i5 := by kernel_rfl
  t12 := Try.underlying12
  a12 := Try.isAgg12
  z12 := Try.sizeOf12
  v12 := Try.zeroValue12
  i12 := by kernel_rfl
  t17 := Try.underlying17
  a17 := Try.isAgg17
  z17 := Try.sizeOf17
  v17 := Try.zeroValue17
  i17 := by kernel_rfl
  t20 := Try.underlying20
  a20 := Try.isAgg20
  z20 := Try.sizeOf20
  v20 := Try.zeroValue20
  i20 := by kernel_rfl
  t26 := Try.underlying44
  a26 := Try.isAgg44
  z26 := Try.sizeOf44
  v26 := Try.zeroValue44
  i26 := by kernel_rfl
  t33 := Try.underlying62
  a33 := Try.isAgg62
  z33 := Try.sizeOf62
  v33 := Try.zeroValue62
  i33 := by kernel_rfl
  t34 := Try.underlying63
  a34 := Try.isAgg63
  z34 := Try.sizeOf63
  v34 := Try.zeroValue63
  i34 := by kernel_rfl
  t36 := Try.underlying65
  a36 := Try.isAgg65
  z36 := Try.sizeOf65
  v36 := Try.zeroValue65
  i36 := by kernel_rfl
  t38 := Try.underlying67
  a38 := Try.isAgg67
  z38 := Try.sizeOf67
  v38 := Try.zeroValue67
  i38 := by kernel_rfl
  t42 := Try.underlying71
  a42 := Try.isAgg71
  z42 := Try.sizeOf71
  v42 := Try.zeroValue71
  i42 := by kernel_rfl
  t47 := Try.underlying73
  a47 := Try.isAgg73
  z47 := Try.sizeOf73
  v47 := Try.zeroValue73
  i47 := by kernel_rfl
  t56 := Try.underlying98
  a56 := Try.isAgg98
  z56 := Try.sizeOf98
  v56 := Try.zeroValue98
  i56 := by kernel_rfl
  t82 := Try.underlying99
  a82 := Try.isAgg99
  z82 := Try.sizeOf99
  v82 := Try.zeroValue99
  i82 := by kernel_rfl
  t83 := Try.underlying100
  a83 := Try.isAgg100
  z83 := Try.sizeOf100
  v83 := Try.zeroValue100
  i83 := by kernel_rfl
  t84 := Try.underlying101
  a84 := Try.isAgg101
  z84 := Try.sizeOf101
  v84 := Try.zeroValue101
  i84 := by kernel_rfl
  t85 := Try.underlying102
  a85 := Try.isAgg102
  z85 := Try.sizeOf102
  v85 := Try.zeroValue102
  i85 := by kernel_rfl
  t86 := Try.underlying103
  a86 := Try.isAgg103
  z86 := Try.sizeOf103
  v86 := Try.zeroValue103
  i86 := by kernel_rfl
  t87 := Try.underlying104
  a87 := Try.isAgg104
  z87 := Try.sizeOf104
  v87 := Try.zeroValue104
  i87 := by kernel_rfl
  t89 := Try.underlying106
  a89 := Try.isAgg106
  z89 := Try.sizeOf106
  v89 := Try.zeroValue106
  i89 := by kernel_rfl }
/-- A slice, told by its parts. -/
def slVq (v : Option Addr × Nat × Nat) : Value := .slice v.1 v.2.1 v.2.2
instance inhSlq : Inhabited (Option Addr × Nat × Nat) := ⟨(none, 0, 0)⟩
theorem RowP.slicesQ {w : World} {base : Nat} {v : Value} {ps : List (Value × List Int)} (h : RowP w base v ps) : ∃ vs : List (Option Addr × Nat × Nat), ps.map (·.1) = vs.map slVq := by
  have : ∀ qs : List (Value × List Int), (∀ q ∈ qs, ∃ pa pn pc, q.1 = .slice pa pn pc) → ∃ vs : List (Option Addr × Nat × Nat), qs.map (·.1) = vs.map slVq := by
    intro qs
    induction qs with
    | nil => intro _; exact ⟨[], rfl⟩
    | cons q qs ih =>
      intro hq
      obtain ⟨vs, e⟩ := ih (fun p hp => hq p (List.mem_cons_of_mem _ hp))
      obtain ⟨pa, pn, pc, e1⟩ := hq q (List.mem_cons_self ..)
      exact ⟨(pa, pn, pc) :: vs, by rw [List.map_cons, List.map_cons, e, e1]; rfl⟩
  exact this ps (fun q hq => (h.2.1 q hq).1)
theorem putCells_sameE {enc : Int → Value} {cur : Array Value} {d : Array Int} {n : Nat} (hs : d.size = n) (h : cur.toList.take n = d.toList.map enc) : Go.Sort.putCells enc 0 d cur = cur := by
  apply Array.ext
  · simp [Go.Sort.putCells]
  · intro i h1 h2
    by_cases hi : i < d.size
    · have e : (cur.toList.take n)[i]? = (d.toList.map enc)[i]? := by rw [h]
      rw [List.getElem?_take_of_lt (by omega)] at e
      have e2 : cur[i] = enc d[i] := by
        have h3 : i < cur.toList.length := by simpa using h2
        rw [List.getElem?_eq_getElem h3, List.getElem?_map, Array.getElem?_toList, Array.getElem?_eq_getElem hi] at e
        simpa using e
      simp [Go.Sort.putCells, hi, e2]
    · simp [Go.Sort.putCells, hi]
theorem RowAt.ownE {EV : EncV} {w0 W : World} {base g n c : Nat} {cur : Array Value} {e : TypeId} {d : Array Int} {xs : List Value} (h0 : w0.ownsRow base e 1 (.slice (some ⟨g, 0, none⟩) n c) n xs) (hg : w0.heap[g]? = some (.cells cur e (0, 0)))
    (h : RowAt EV w0 g cur e d W) (hs : d.size = n) : W.ownsRow base e 1 (.slice (some ⟨g, 0, none⟩) n c) n (d.toList.map EV.enc) := by
  refine ⟨by simp [hs], ?_⟩
  rcases h0.2 with ⟨h', _⟩ | ⟨g', cap', cur', h', hb, hg', h1, h2, h3, h4⟩
  · simp at h'
  · simp only [Value.slice.injEq, Option.some.injEq, Addr.mk.injEq, and_true, true_and] at h'
    obtain ⟨rfl, rfl⟩ := h'
    obtain rfl : cur = cur' := by
      rw [hg] at hg'
      simpa using hg'
    refine .inr ⟨g, c, _, rfl, hb, h.row, h1, h2, ?_, ?_⟩
    · unfold Go.Sort.putCells; simpa using h3
    · have := putCells_all (enc := EV.enc) (cur := cur) (d := d) (by rw [h3, hs]; omega)
      rw [hs] at this
      rw [Nat.mul_one]; exact this
theorem permIn_listE {l : List Int} {d' : Array Int} (hp : PermIn 0 l.length l.toArray d') : d'.toList.Perm l := by
  obtain ⟨hz, -, hpp⟩ := hp
  have hz' : d'.size = l.length := by simpa using hz
  have e1 : (d'.extract 0 l.length) = d' := by rw [← hz']; simp
  rw [e1] at hpp
  simpa using hpp
theorem srt_listE {lt' : Int → Int → Bool} {d' : Array Int} {n : Nat} (hz : d'.size = n) (hs : Srt lt' 0 n d') : d'.toList.Pairwise fun a b => lt' a b = true := by
  refine List.pairwise_iff_getElem.2 fun i j hi hj hij => ?_
  have hi' : i < d'.size := by simpa using hi
  have hj' : j < d'.size := by simpa using hj
  have := hs i j (Nat.zero_le _) hij (by omega)
  rw [getElem!_pos d' j hj', getElem!_pos d' i hi'] at this
  simpa using this
theorem arr_nthE (d : Array Int) (i : Nat) (hi : i < d.size) : d[i]! = nth d.toList i := by
  rw [nth_eq _ _ (by simpa using hi), getElem!_pos d i hi]; simp
/-- The places 0, 1, .. as numbers. -/
def ixs (n : Nat) : List Int := (List.range n).map fun i : Nat => (i : Int)
theorem ixs_len (n : Nat) : (ixs n).length = n := by simp [ixs]
theorem ixs_nth {n i : Nat} (h : i < n) : nth (ixs n) i = (i : Int) := by
  unfold ixs
  rw [nth_map' _ _ _ (by simpa using h), nth_eq _ _ (by simpa using h)]; simp
theorem ixs_sorted (n : Nat) : (ixs n).Pairwise (fun a b => a < b) := by
  unfold ixs
  rw [List.pairwise_map]
  exact List.Pairwise.imp (fun h => by omega) (List.pairwise_lt_range)
theorem ixs_uniq {n : Nat} {l : List Int} (hp : l.Perm (ixs n)) (hs : l.Pairwise (fun a b => a < b)) : l = ixs n :=
  List.Perm.eq_of_pairwise (fun a b _ _ h1 h2 => by omega) hs (ixs_sorted n) hp
def ltD (a b : Int) : Bool := decide (a < b)
def ltLi (L : List (List Int)) (a b : Int) : Bool := decide (cmpL (nth L a.toNat) (nth L b.toNat) < 0)
/-- A closure 'func(i, k int) bool { return ComparePatterns(out[i], out[k]) < 0 }'. -/
def LessQ (g : Nat) : Prop := ∀ (blk c B size : Nat) (W : World) (V : Nat → Option Addr × Nat × Nat) (M : Nat → List Int), W.cell? ⟨B, 0, none⟩ = some (.slice (some ⟨blk, 0, none⟩) size c) → (∀ t, t < size → W.cell? ⟨blk, t, none⟩ = some (slVq (V t)) ∧ IntsAt W (slVq (V t)) (M t)) →
    ∀ i j : Nat, i < size → j < size → Calls Try.prog g #[.int .i64 i, .int .i64 j, .pointer (some ⟨B, 0, none⟩)] W fun e w' => e = .returned (.bool (decide (cmpL (M i) (M j) < 0))) ∧ Below W.heap.size W w'
theorem stableWorld_grownE (ρ : Ren) (t : TypeId) (p : Option Addr) (n c : Nat) (w : World) (r : Option Nat) : w.grownBy (stableWorld Try.prog ρ t p n c w) r := by
  unfold stableWorld
  rw [Go.Sort.alloc_eq_grow, Go.Sort.alloc_eq_grow, Go.Sort.grow_grow]
  exact ⟨below_grow.os, below_grow.tape, below_grow.output, below_grow.size, fun k hk _ => below_grow.block k hk⟩
theorem stableWorld_block' (ρ : Ren) (t : TypeId) (p : Option Addr) (n c : Nat) (w : World) (g : Nat) (hg : g < w.heap.size) : (stableWorld Try.prog ρ t p n c w).heap[g]? = w.heap[g]? :=
  (stableWorld_grownE ρ t p n c w none).block g hg (by simp)
noncomputable def qSlS : TypeInfo := (Try.prog.info? 22).get (by kernel_rfl)
noncomputable def qSlE : TypeInfo := (Try.prog.info? 35).get (by kernel_rfl)
theorem qSlk (n : Nat) (h2 : 2 ≤ n) : Lib.swapperK n qSlE 23 = 9 := by
  have a : qSlE.hasPointers = true := by kernel_rfl
  have b : (qSlE.bytes == 8) = false := by kernel_rfl
  have c : (n == 0) = false := by simp; omega
  have d : (n == 1) = false := by simp; omega
  simp [Lib.swapperK, a, b, c, d]
theorem qSlo (n : Nat) (h2 : n ≤ 1) : Lib.swapperK n qSlE 23 = n + 1 := by
  rcases Nat.eq_zero_or_pos n with h | h
  · subst h; simp [Lib.swapperK]
  · obtain rfl : n = 1 := by omega
    simp [Lib.swapperK]
set_option maxHeartbeats 2000000 in
/-- A row of lists that stands in order already. -/
theorem stableLists_c (g : Nat) (eg : ∀ args w, (callFunc g args).run Try.prog w = .ok (.enter g args) w) (hL : LessQ g) (a : Option Addr) (n c B base : Nat) (ps : List (Value × List Int)) (w : World) (hR : RowP w base (.slice a n c) ps) (hS : SA (ps.map (·.2)))
    (hB : BoxIs w B [.slice a n c]) (hfar : ∀ k, RowBlk (.slice a n c) ps k → k ≠ B) (hl : n ≤ 1000000) :
    Calls Try.prog 29 #[.iface 22 (.slice a n c), .func (.func g) #[] #[.pointer (some ⟨B, 0, none⟩)]] w fun e w' => e = .returned (.tuple #[]) ∧ RowP w' base (.slice a n c) ps ∧ w.grownBy w' (a.map (·.block)) := by
  obtain ⟨vs, hvs⟩ := hR.slicesQ
  have hn := hR.len
  have hvl : vs.length = n := by have := congrArg List.length hvs; simp at this; omega
  let EV : EncV := ⟨fun i => slVq (nth vs i.toNat)⟩
  have henc : (ixs n).map EV.enc = ps.map (·.1) := by
    rw [hvs]
    apply List.ext_getElem?
    intro i
    by_cases hi : i < n
    · rw [List.getElem?_map, nth_get? _ _ (by rw [ixs_len]; exact hi), ixs_nth hi, List.getElem?_map, nth_get? vs i (by omega)]
      show some (slVq (nth vs (i : Int).toNat)) = _
      rw [Int.toNat_natCast]; rfl
    · rw [List.getElem?_eq_none (by simp [ixs_len]; omega), List.getElem?_eq_none (by simp; omega)]
  have hO : w.ownsRow base 35 1 (.slice a n c) n ((ixs n).map EV.enc) := by rw [henc, hn]; exact hn ▸ hR.1
  by_cases h2 : 2 ≤ n
  · rcases hO.2 with ⟨h0, h1⟩ | ⟨g0, cap, cur, hv, hbg, hg, h1c, _, h3c, h4c⟩
    · omega
    · obtain ⟨rfl, rfl⟩ : a = some ⟨g0, 0, none⟩ ∧ c = cap := by injection hv with h1 h2 h3; exact ⟨h1, h3⟩
      have hgs : g0 < w.heap.size := by
        rcases Nat.lt_or_ge g0 w.heap.size with h | h
        · exact h
        · rw [Array.getElem?_eq_none h] at hg; exact absurd hg (by simp)
      have hBg : B ≠ g0 := fun e => hfar g0 (.inl rfl) e.symm
      have hsz : (ixs n).toArray.size = n := by simp [ixs_len]
      have hsame : Go.Sort.putCells EV.enc 0 (ixs n).toArray cur = cur := putCells_sameE hsz (by rw [← h4c, Nat.mul_one])
      have hback : ∀ (W : World) (d : Array Int), RowAt EV w g0 cur 35 d W → d.size = n → d.toList.Perm (ixs n) → W.ownsRow base 35 1 (.slice (some ⟨g0, 0, none⟩) n c) n (d.toList.map EV.enc) := fun W d hr hd _ => hr.ownE hO hg hd
      have hSt := Any.sort_SliceStable_of_stable sl8q 22 35 qSlS qSlE (by kernel_rfl) (by kernel_rfl) (by kernel_rfl) (by kernel_rfl) 23 (fun _ => by kernel_rfl) (some ⟨g0, 0, none⟩) n c (by omega) 65 (by rw [qSlk _ h2]; kernel_rfl) (.func g) #[] #[.pointer (some ⟨B, 0, none⟩)] w
        (fun w' => RowP w' base (.slice (some ⟨g0, 0, none⟩) n c) ps ∧ w.grownBy w' (some g0)) ?_
      · change Calls Try.prog 29 _ _ _ at hSt
        exact hSt
      · have hbd : sliceBound Try.prog 35 qSlE 23 (some ⟨g0, 0, none⟩) n c = #[.slice (some ⟨g0, 0, none⟩) n c, typeHandle Try.prog 35] := by
          unfold sliceBound; rw [if_neg (swapperK_gt _ _ _ h2)]
        rw [hbd]
        change Calls Try.prog 43 _ _ _
        refine Calls.mono (stable_c (EV := EV) (w0 := w) (g := g0) (n := n) (cur := cur) (e := 35) (lt := ltLi (ps.map (·.2))) (lt' := ltD) (d0 := (ixs n).toArray) ⟨?_, ?_, eg, ?_, by omega, hsz⟩ _ ⟨stableWorld_grownE _ _ _ _ _ _ _, ?_⟩ ?_) ?_
        · intro W d hr hd i j hi hj
          have := swapSwaps_of_literal (P := Try.prog) false 65 (fun args W => run_callFunc_extern Try.func65 (by kernel_rfl) (by kernel_rfl) (by kernel_rfl) (e := Extern.ReflectliteSwapper.swap false) (by kernel_rfl) args W) 35 qSlE (by kernel_rfl) (by kernel_rfl) (fun _ => by kernel_rfl) EV.enc (fun _ => rfl) g0 0 n c W d (hr.holds (by omega)) hd i j hi hj
          rw [Nat.zero_add, Nat.zero_add] at this
          exact this
        · intro W d hr hp i j hi hj
          have hds : d.size = n := hp.1.trans hsz
          have hpl : d.toList.Perm (ixs n) := permIn_listE (by rw [ixs_len]; exact hp)
          have hin : ∀ t, t < n → ∃ k : Nat, k < n ∧ d[t]! = (k : Int) := fun t ht => by
            rw [arr_nthE d t (by omega)]
            have h1 : nth d.toList t ∈ ixs n := hpl.mem_iff.1 (mem_nth (by simpa using (show t < d.size by omega)))
            unfold ixs at h1
            obtain ⟨k, hk, e⟩ := List.mem_map.1 h1
            exact ⟨k, List.mem_range.1 hk, e.symm⟩
          have hcB : W.cell? ⟨B, 0, none⟩ = some (.slice (some ⟨g0, 0, none⟩) n c) := by
            have h1 : W.heap[B]? = w.heap[B]? := hr.grown.block B hB.1 (fun e => by injection e with e; exact hBg e)
            exact (World.cell?_of_block (a := ⟨B, 0, none⟩) h1).trans (hB.2.1 0)
          exact hL g0 c B n W (fun t => nth vs (d[t]!).toNat) (fun t => nth (ps.map (·.2)) (d[t]!).toNat) hcB (fun t ht => by
            obtain ⟨k, hk, e⟩ := hin t ht
            refine ⟨hr.cell (by omega) (by omega), ?_⟩
            rw [e, Int.toNat_natCast]
            have hkp : k < ps.length := by omega
            have e1 : slVq (nth vs k) = (nth ps k).1 := by
              have h1 := nth_map' (fun p : Value × List Int => p.1) ps k hkp
              have h2 := nth_map' slVq vs k (by omega)
              rw [← h2, ← hvs]; exact h1
            have e2 : nth (ps.map (·.2)) k = (nth ps k).2 := nth_map' (fun p : Value × List Int => p.2) ps k hkp
            rw [e1, e2]
            have h3 := hR.2.1 _ (mem_nth hkp)
            have h4 := own_heapP h3.2.1 (w' := W) (fun x hx => hr.grown.block x (h3.2.1.lt x hx).2 (fun e => by injection e with e; exact h3.2.2 x hx (by rw [e]; rfl)))
            exact OwnInts.at h4) i j hi hj
        · intro x y z h1 h2
          unfold ltD at *
          have h1 := of_decide_eq_true h1
          have h2 := of_decide_eq_true h2
          exact decide_eq_true (by omega)
        · rw [stableWorld_block' _ _ _ _ _ _ _ hgs, hsame]; exact hg
        · intro i j _ hij hj
          rw [arr_nthE _ i (by omega), arr_nthE _ j (by omega)]
          show (ltLi _ (nth (ixs n) j) (nth (ixs n) i) = true → _) ∧ (ltLi _ (nth (ixs n) j) (nth (ixs n) i) = false → ltD (nth (ixs n) i) (nth (ixs n) j) = true)
          rw [ixs_nth hj, ixs_nth (show i < n by omega)]
          refine ⟨fun h => ?_, fun _ => decide_eq_true (by omega)⟩
          unfold ltLi at h
          have h := of_decide_eq_true h
          rw [Int.toNat_natCast, Int.toNat_natCast] at h
          have h2 := sa_nth hS hij (by rw [List.length_map]; omega)
          have h3 := cmpL_swp (nth (ps.map (·.2)) i) (nth (ps.map (·.2)) j)
          omega
        · rintro x W' ⟨rfl, d', hr, hp, hs⟩
          have hds : d'.size = n := hp.1.trans hsz
          have hpl : d'.toList.Perm (ixs n) := permIn_listE (by rw [ixs_len]; exact hp)
          have hgr := grown_trans (stableWorld_grownE _ _ _ _ _ _ _) hr.grown
          have hd : d'.toList = ixs n := ixs_uniq hpl (List.Pairwise.imp (fun h => of_decide_eq_true h) (srt_listE hds hs))
          have hr2 : RowAt EV w g0 cur 35 d' W' := ⟨hgr, hr.row⟩
          have hO' := hr2.ownE hO hg hds
          rw [hd, henc] at hO'
          refine ⟨rfl, ⟨by rw [← hn]; exact hO', fun p hp => ?_, hR.2.2⟩, hgr⟩
          have h3 := hR.2.1 p hp
          exact ⟨h3.1, own_heapP h3.2.1 (fun x hx => hgr.block x (h3.2.1.lt x hx).2 (fun e => by injection e with e; exact h3.2.2 x hx (by rw [e]; rfl))), h3.2.2⟩
  · have hSt := Any.sort_SliceStable_tiny sl8q 22 35 qSlS qSlE (by kernel_rfl) (by kernel_rfl) (by kernel_rfl) (by kernel_rfl) 23 (fun _ => by kernel_rfl) a n c (by omega) (57 + n) (by
      rw [qSlo n (by omega)]
      rcases Nat.eq_zero_or_pos n with h | h
      · subst h; kernel_rfl
      · obtain rfl : n = 1 := by omega
        kernel_rfl) (.func g) #[] #[.pointer (some ⟨B, 0, none⟩)] w
    change Calls Try.prog 29 _ _ _ at hSt
    refine hSt.mono ?_
    rintro e w' ⟨rfl, os, rfl⟩
    have hb : Below w.heap.size w (Go.Sort.grow w os) := below_grow
    exact ⟨rfl, hR.below hb, ⟨hb.os, hb.tape, hb.output, hb.size, fun k hk _ => hb.block k hk⟩⟩
end Go.Proofs.Ythdejhningghcaa
