import Derived.Test.YtpfjmbgkbildjaaMg13
import Derived.Test.YtpfjmbgkbildjaaMg1
import Derived.Test.YtpfjmbgkbildjaaMg14
import Derived.Shelf.GgSortMore.Stable
import Derived.Ground.GgtProg
import Derived.Test.YtpfjmbgkbildjaaMg10
/- StableE: sort.SliceStable at numbers that the call owns, at whatever length; the closure may allocate. -/
namespace Go.Proofs.Ytpfjmbgkbildjaa
open Go.ChangeShapes Go.WideShapes Go.ChangeAt Go.RowKit Go.Lib Go.Shelf
open Go.Sort (swp PermIn)

def sl8_ren : Go.Shelf.Ren := ⟨fun | 8 => 61 | 13 => 83 | 14 => 84 | 16 => 86 | 15 => 85 | 29 => 103 | 30 => 104 | 42 => 106 | 49 => 107 | n => n, fun | 20 => 20 | 26 => 60 | 36 => 69 | 0 => 0 | 38 => 71 | 42 => 75 | 3 => 3 | 4 => 4 | 47 => 56 | 17 => 17 | 33 => 66 | 34 => 67 | 89 => 97 | 12 => 12 | 56 => 89 | 82 => 90 | 5 => 5 | 83 => 91 | 84 => 92 | 85 => 93 | 86 => 94 | 87 => 95 | n => n, fun | n => n⟩
theorem sl8 : Go.Proofs.LaysGt.n8 Try.prog sl8_ren := {
  mixed := by kernel_rfl
  f8 := Try.func61.trans (congrArg some (by kernel_rfl))
  f13 := Try.func83.trans (congrArg some (by kernel_rfl))
  f14 := Try.func84.trans (congrArg some (by kernel_rfl))
  f15 := Try.func85.trans (congrArg some (by kernel_rfl))
  f16 := Try.func86.trans (congrArg some (by kernel_rfl))
  f29 := Try.func103.trans (congrArg some (by kernel_rfl))
  f30 := Try.func104.trans (congrArg some (by kernel_rfl))
  f42 := Try.func106.trans (congrArg some (by kernel_rfl))
  f49 := Try.func107.trans (congrArg some (by kernel_rfl))
  t0 := Try.underlying0
  a0 := Try.isAgg0
  z0 := Try.sizeOf0
  v0 := Try.zeroValue0
  i0 := by kernel_rfl
  t3 := Try.underlying3
  a3 := Try.isAgg3
  z3 := Try.sizeOf3
  v3 := Try.zeroValue3
  i3 := by kernel_rfl
  t4 := Try.underlying4
  a4 := Try.isAgg4
  z4 := Try.sizeOf4
  v4 := Try.zeroValue4
  i4 := by kernel_rfl
  t5 := Try.underlying5
  a5 := Try.isAgg5
  z5 := Try.sizeOf5
  v5 := Try.zeroValue5
  i5 := by kernel_rfl
  t12 := Try.underlying12
  a12 := Try.isAgg12
  z12 := Try.sizeOf12
  v12 := Try.zeroValue12
  i12 := by kernel_rfl
  t17 := Try.underlying17
  a17 := Try.isAgg17
  z17 := Try.sizeOf17
  v17 := Try.zeroValue17
  i17 := by kernel_rfl
  t20 := Try.underlying20
  a20 := Try.isAgg20
  z20 := Try.sizeOf20
  v20 := Try.zeroValue20
  i20 := by kernel_rfl
  t26 := Try.underlying60
  a26 := Try.isAgg60
  z26 := Try.sizeOf60
  v26 := Try.zeroValue60
  i26 := by kernel_rfl
  t33 := Try.underlying66
  a33 := Try.isAgg66
  z33 := Try.sizeOf66
  v33 := Try.zeroValue66
  i33 := by kernel_rfl
  t34 := Try.underlying67
  a34 := Try.isAgg67
  z34 := Try.sizeOf67
  v34 := Try.zeroValue67
  i34 := by kernel_rfl
  t36 := Try.underlying69
  a36 := Try.isAgg69
  z36 := Try.sizeOf69
  v36 := Try.zeroValue69
  i36 := by kernel_rfl
  t38 := Try.underlying71
  a38 := Try.isAgg71
  z38 := Try.sizeOf71
  v38 := Try.zeroValue71
  i38 := by kernel_rfl
  t42 := Try.underlying75
  a42 := Try.isAgg75
  z42 := Try.sizeOf75
  v42 := Try.zeroValue75
  i42 := by kernel_rfl
  t47 := Try.underlying56
  a47 := Try.isAgg56
  z47 := Try.sizeOf56
  v47 := Try.zeroValue56
  i47 := by kernel_rfl
  t56 := Try.underlying89
  a56 := Try.isAgg89
  z56 := Try.sizeOf89
  v56 := Try.zeroValue89
  i56 := by kernel_rfl
  t82 := Try.underlying90
  a82 := Try.isAgg90
  z82 := Try.sizeOf90
  v82 := Try.zeroValue90
  i82 := by kernel_rfl
  t83 := Try.underlying91
  a83 := Try.isAgg91
  z83 := Try.sizeOf91
  v83 := Try.zeroValue91
  i83 := by kernel_rfl
  t84 := Try.underlying92
  a84 := Try.isAgg92
  z84 := Try.sizeOf92
  v84 := Try.zeroValue92
  i84 := by kernel_rfl
  t85 := Try.underlying93
  a85 := Try.isAgg93
  z85 := Try.sizeOf93
  v85 := Try.zeroValue93
  i85 := by kernel_rfl
  t86 := Try.underlying94
  a86 := Try.isAgg94
  z86 := Try.sizeOf94
  v86 := Try.zeroValue94
  i86 := by kernel_rfl
  t87 := Try.underlying95
  a87 := Try.isAgg95
  z87 := Try.sizeOf95
  v87 := Try.zeroValue95
  i87 := by kernel_rfl
  t89 := Try.underlying97
  a89 := Try.isAgg97
  z89 := Try.sizeOf97
  v89 := Try.zeroValue97
  i89 := by kernel_rfl }

theorem putCells_same {cur : Array Value} {d : Array Int} {n : Nat} (hs : d.size = n) (h : cur.toList.take n = d.toList.map (Value.int .i64)) : Go.Sort.putCells (Value.int .i64) 0 d cur = cur := by
  apply Array.ext
  · simp [Go.Sort.putCells]
  · intro i h1 h2
    by_cases hi : i < d.size
    · have e : (cur.toList.take n)[i]? = (d.toList.map (Value.int .i64))[i]? := by rw [h]
      rw [List.getElem?_take_of_lt (by omega)] at e
      have e2 : cur[i] = Value.int .i64 d[i] := by
        have h3 : i < cur.toList.length := by simpa using h2
        rw [List.getElem?_eq_getElem h3, List.getElem?_map, Array.getElem?_toList, Array.getElem?_eq_getElem hi] at e
        simpa using e
      simp [Go.Sort.putCells, hi, e2]
    · simp [Go.Sort.putCells, hi]
theorem RowAt.own {w0 W w : World} {base g n c : Nat} {cur : Array Value} {e : TypeId} {d : Array Int} {xs : List Value} (h0 : w.ownsRow base e 1 (.slice (some ⟨g, 0, none⟩) n c) n xs) (hg : w.heap[g]? = some (.cells cur e (0, 0)))
    (h : RowAt w0 g cur e d W) (hs : d.size = n) : W.ownsRow base e 1 (.slice (some ⟨g, 0, none⟩) n c) n (d.toList.map (Value.int .i64)) := by
  refine ⟨by simp [hs], ?_⟩
  rcases h0.2 with ⟨h', _⟩ | ⟨g', cap', cur', h', hb, hg', h1, h2, h3, h4⟩
  · simp at h'
  · simp only [Value.slice.injEq, Option.some.injEq, Addr.mk.injEq, and_true, true_and] at h'
    obtain ⟨rfl, rfl⟩ := h'
    obtain rfl : cur = cur' := by
      rw [hg] at hg'
      simpa using hg'
    refine .inr ⟨g, c, _, rfl, hb, h.row, h1, h2, ?_, ?_⟩
    · unfold Go.Sort.putCells; simpa using h3
    · have := putCells_all (enc := Value.int .i64) (cur := cur) (d := d) (by rw [h3, hs]; omega)
      rw [hs] at this
      rw [Nat.mul_one]; exact this
theorem permIn_list {l : List Int} {d' : Array Int} (hp : PermIn 0 l.length l.toArray d') : d'.toList.Perm l := by
  obtain ⟨hz, -, hpp⟩ := hp
  have hz' : d'.size = l.length := by simpa using hz
  have e1 : (d'.extract 0 l.length) = d' := by rw [← hz']; simp
  rw [e1] at hpp
  simpa using hpp
theorem srt_list {lt' : Int → Int → Bool} {d' : Array Int} {n : Nat} (hz : d'.size = n) (hs : Srt lt' 0 n d') : d'.toList.Pairwise fun a b => lt' a b = true := by
  refine List.pairwise_iff_getElem.2 fun i j hi hj hij => ?_
  have hi' : i < d'.size := by simpa using hi
  have hj' : j < d'.size := by simpa using hj
  have := hs i j (Nat.zero_le _) hij (by omega)
  rw [getElem!_pos d' j hj', getElem!_pos d' i hi'] at this
  simpa using this
theorem arr_nth (d : Array Int) (i : Nat) (hi : i < d.size) : d[i]! = nth d.toList i := by
  rw [nth_eq _ _ (by simpa using hi), getElem!_pos d i hi]; simp
/-- The closure of a stable sort at a row a: what it is asked. -/
def LessAt (gl : Nat) (lb : Array Value) (lt : Int → Int → Bool) (l : List Int) (base : Nat) (ET : TypeId) (a : Option Addr) (n c : Nat) (w : World) : Prop :=
  ∀ (W : World) (d : List Int), d.Perm l → w.grownBy W (a.map (·.block)) → W.ownsRow base ET 1 (.slice a n c) n (d.map (Value.int .i64)) →
    ∀ i j : Nat, i < n → j < n → Calls Try.prog gl (#[.int .i64 i, .int .i64 j] ++ lb) W fun x W' => x = .returned (.bool (lt (nth d i) (nth d j))) ∧ Below W.heap.size W W'

theorem stableWorld_grown (ρ : Ren) (t : TypeId) (p : Option Addr) (n c : Nat) (w : World) (r : Option Nat) : w.grownBy (stableWorld Try.prog ρ t p n c w) r := by
  unfold stableWorld
  rw [Go.Sort.alloc_eq_grow, Go.Sort.alloc_eq_grow, Go.Sort.grow_grow]
  exact ⟨below_grow.os, below_grow.tape, below_grow.output, below_grow.size, fun k hk _ => below_grow.block k hk⟩
theorem stableWorld_block (ρ : Ren) (t : TypeId) (p : Option Addr) (n c : Nat) (w : World) (g : Nat) (hg : g < w.heap.size) : (stableWorld Try.prog ρ t p n c w).heap[g]? = w.heap[g]? :=
  (stableWorld_grown ρ t p n c w none).block g hg (by simp)

noncomputable def eSlS : TypeInfo := (Try.prog.info? 24).get (by kernel_rfl)
noncomputable def eSlE : TypeInfo := (Try.prog.info? 2).get (by kernel_rfl)
theorem eSlk (n : Nat) (h2 : 2 ≤ n) : Lib.swapperK n eSlE 6 = 5 := by
  have a : eSlE.hasPointers = false := by kernel_rfl
  have b : eSlE.bytes = 8 := by kernel_rfl
  have c : (n == 0) = false := by simp; omega
  have d : (n == 1) = false := by simp; omega
  simp [Lib.swapperK, a, b, c, d]
theorem eSlo (n : Nat) (h2 : n ≤ 1) : Lib.swapperK n eSlE 6 = n + 1 := by
  rcases Nat.eq_zero_or_pos n with h | h
  · subst h; simp [Lib.swapperK]
  · obtain rfl : n = 1 := by omega
    simp [Lib.swapperK]
set_option maxHeartbeats 2000000 in
theorem stableI64_c (g : Nat) (eg : ∀ args w, (callFunc g args).run Try.prog w = .ok (.enter g args) w) (lb : Array Value) (lt lt' : Int → Int → Bool) (tr : ∀ x y z, lt' x y = true → lt' y z = true → lt' x z = true)
    (a : Option Addr) (n c base : Nat) (l : List Int) (w : World) (hO : w.ownsRow base 2 1 (.slice a n c) n (l.map (Value.int .i64))) (hn : n = l.length) (hl : l.length ≤ 1000000) (hB : Base lt lt' l.toArray 0 n) (hL : LessAt g lb lt l base 2 a n c w) :
    Calls Try.prog 61 #[.iface 24 (.slice a n c), .func (.func g) #[] lb] w fun e w' => e = .returned (.tuple #[]) ∧ ∃ l' : List Int, l'.Perm l ∧ l'.Pairwise (fun x y => lt' x y = true) ∧ w'.ownsRow base 2 1 (.slice a n c) n (l'.map (Value.int .i64)) ∧ w.grownBy w' (a.map (·.block)) := by
  by_cases h2 : 2 ≤ n
  · rcases hO.2 with ⟨h0, h1⟩ | ⟨g0, cap, cur, hv, hbg, hg, h1c, _, h3c, h4c⟩
    · omega
    · obtain ⟨rfl, rfl⟩ : a = some ⟨g0, 0, none⟩ ∧ c = cap := by injection hv with h1 h2 h3; exact ⟨h1, h3⟩
      have hgs : g0 < w.heap.size := by
        rcases Nat.lt_or_ge g0 w.heap.size with h | h
        · exact h
        · rw [Array.getElem?_eq_none h] at hg; exact absurd hg (by simp)
      have hsz : l.toArray.size = n := by simp [hn]
      have hsame : Go.Sort.putCells (Value.int .i64) 0 l.toArray cur = cur := putCells_same hsz (by rw [← h4c, Nat.mul_one])
      have hS := Any.sort_SliceStable_of_stable sl8 24 2 eSlS eSlE (by kernel_rfl) (by kernel_rfl) (by kernel_rfl) (by kernel_rfl) 6 (fun _ => by kernel_rfl) (some ⟨g0, 0, none⟩) n c (by omega) 98 (by rw [eSlk _ h2]; kernel_rfl) (.func g) #[] lb w
        (fun w' => ∃ l' : List Int, l'.Perm l ∧ l'.Pairwise (fun x y => lt' x y = true) ∧ w'.ownsRow base 2 1 (.slice (some ⟨g0, 0, none⟩) n c) n (l'.map (Value.int .i64)) ∧ w.grownBy w' (some g0)) ?_
      · change Calls Try.prog 61 _ _ _ at hS
        exact hS
      · have hbd : sliceBound Try.prog 2 eSlE 6 (some ⟨g0, 0, none⟩) n c = #[.slice (some ⟨g0, 0, none⟩) n c, typeHandle Try.prog 2] := by
          unfold sliceBound; rw [if_neg (swapperK_gt _ _ _ h2)]
        rw [hbd]
        change Calls Try.prog 85 _ _ _
        refine Calls.mono (stable_c (w0 := w) (g := g0) (n := n) (cur := cur) (e := 2) (lt := lt) (lt' := lt') (d0 := l.toArray) ⟨?_, ?_, eg, tr, by omega, hsz⟩ _ ⟨stableWorld_grown _ _ _ _ _ _ _, ?_⟩ hB) ?_
        · intro W d hR hd i j hi hj
          have := swapSwaps_of_literal (P := Try.prog) true 98 (fun args W => run_callFunc_extern Try.func98 (by kernel_rfl) (by kernel_rfl) (by kernel_rfl) (e := Extern.ReflectliteSwapper.swap true) (by kernel_rfl) args W) 2 eSlE (by kernel_rfl) (by kernel_rfl) (fun _ => by kernel_rfl) (Value.int .i64) (fun _ => rfl) g0 0 n c W d (hR.holds (by omega)) hd i j hi hj
          rw [Nat.zero_add, Nat.zero_add] at this
          exact this
        · intro W d hR hp i j hi hj
          have hds : d.size = n := hp.1.trans hsz
          have := hL W d.toList (permIn_list (by rw [← hn]; exact hp)) hR.grown (hR.own hO hg hds) i j hi hj
          rw [arr_nth d i (by omega), arr_nth d j (by omega)]
          exact this
        · rw [stableWorld_block _ _ _ _ _ _ _ hgs, hsame]; exact hg
        · rintro x W' ⟨rfl, d', hR, hp, hs⟩
          have hds : d'.size = n := hp.1.trans hsz
          exact ⟨rfl, d'.toList, permIn_list (by rw [← hn]; exact hp), srt_list hds hs, hR.own hO hg hds, grown_trans (stableWorld_grown _ _ _ _ _ _ _) hR.grown⟩
  · have hS := Any.sort_SliceStable_tiny sl8 24 2 eSlS eSlE (by kernel_rfl) (by kernel_rfl) (by kernel_rfl) (by kernel_rfl) 6 (fun _ => by kernel_rfl) a n c (by omega) (94 + n) (by
      rw [eSlo n (by omega)]
      rcases Nat.eq_zero_or_pos n with h | h
      · subst h; kernel_rfl
      · obtain rfl : n = 1 := by omega
        kernel_rfl) (.func g) #[] lb w
    change Calls Try.prog 61 _ _ _ at hS
    refine hS.mono ?_
    rintro e w' ⟨rfl, os, rfl⟩
    have hb : Below w.heap.size w (Go.Sort.grow w os) := below_grow
    refine ⟨rfl, l, List.Perm.refl _, ?_, own_below hO hb, ⟨hb.os, hb.tape, hb.output, hb.size, fun k hk _ => hb.block k hk⟩⟩
    match l, hn with
    | [], _ => exact List.Pairwise.nil
    | [x], _ => exact List.pairwise_singleton _ _
    | x :: y :: r, hn => simp at hn; omega
end Go.Proofs.Ytpfjmbgkbildjaa

/- OrdK: what a sort of indices wants to know of memory. -/
namespace Go.Proofs.Ytpfjmbgkbildjaa
open Go.ChangeShapes Go.WideShapes Go.ChangeAt Go.RowKit

theorem BoxIs.grown {w w' : World} {b : Nat} {l : List Value} {row : Option Nat} (h : BoxIs w b l) (hg : w.grownBy w' row) (hr : some b ≠ row) : BoxIs w' b l :=
  ⟨Nat.lt_of_lt_of_le h.1 hg.size, fun j => (World.cell?_of_block (a := ⟨b, j, none⟩) (hg.block b h.1 hr)).trans (h.2.1 j), fun j => (World.frozen?_of_block (a := ⟨b, j, none⟩) (hg.block b h.1 hr)).trans (h.2.2 j)⟩
theorem own_kc {w : World} {base : Nat} {e : TypeId} {a : Option Addr} {n c : Nat} {l : List Int} (ho : w.ownsRow base e 1 (.slice a n c) n (l.map (Value.int .i64))) (hn : n = l.length) : IntsC w a l := by
  have hlt := ho.lt
  rcases ho.2 with ⟨h, h0⟩ | ⟨g, cap, cur, h, hb, hg, hnc, hcm, hcs, htake⟩
  · intro i hi; omega
  · injection h with h1 h2 h3
    subst h1
    refine fun i hi => ⟨g, 0, rfl, (hlt g rfl).2, ?_⟩
    have := ho.cellAt i (by omega)
    rw [Nat.zero_add, this, List.getElem?_map, nth_get? l i hi]; rfl
theorem base_iota (k1 k2 : Int → Int) (n : Nat) : Base (ltK k1 k2) (ltT k1 k2) (iota n).toArray 0 n := by
  intro i j _ hij hj
  rw [arr_nth _ i (by simp [iota_len]; omega), arr_nth _ j (by simp [iota_len]; omega), iota_nth n i (by omega), iota_nth n j hj]
  have hlt : ((i : Nat) : Int) < (j : Int) := by omega
  refine ⟨fun h => by rw [ltT_late k1 k2 hlt]; exact h, fun h => by rw [ltT_early k1 k2 hlt, h]; rfl⟩
theorem own_block_slice (a : Option Addr) (n c : Nat) : (Value.slice a n c).ownBlock = a.map (·.block) := by cases a <;> rfl
theorem kown_off {w : World} {base : Nat} {e : TypeId} {size : Nat} {v : Value} {n : Nat} {xs : List Value} (h : w.ownsRow base e size v n xs) (p : Addr) (hp : v.ownBlock ≠ some p.block) (u : Value) : (w.setCell p u).ownsRow base e size v n xs :=
  h.kept (row := some p.block) ⟨rfl, rfl, rfl, by simp [World.setCell], fun k _ hk => Below.heap_setCell _ _ _ _ (fun e => hk (by rw [e]))⟩ (.inr hp)
end Go.Proofs.Ytpfjmbgkbildjaa
