import Derived.Test.YtclffohjpbmnbaaDoorMg21
import Derived.Test.YtclffohjpbmnbaaDoorMg5
import Derived.Test.YtclffohjpbmnbaaDoorMg10
import Derived.Shelf.GgSortMore.Stable
import Derived.Ground.GgtProg
import Derived.Test.YtclffohjpbmnbaaDoorMg16
/- StableE: sort.SliceStable at numbers that the call owns, at whatever length; the closure may allocate. -/
namespace Go.Proofs.YtclffohjpbmnbaaDoor
open Go.ChangeShapes Go.WideShapes Go.ChangeAt Go.RowKit Go.Lib Go.Shelf
open Go.Sort (swp PermIn)

def sl8_ren : Go.Shelf.Ren := ⟨fun | 8 => 49 | 13 => 63 | 14 => 64 | 16 => 66 | 15 => 65 | 29 => 78 | 30 => 79 | 42 => 84 | 49 => 90 | n => n, fun | 20 => 20 | 26 => 71 | 36 => 86 | 0 => 0 | 38 => 88 | 42 => 92 | 3 => 3 | 4 => 4 | 47 => 94 | 17 => 17 | 33 => 83 | 34 => 84 | 89 => 129 | 12 => 12 | 56 => 109 | 82 => 122 | 5 => 5 | 83 => 123 | 84 => 124 | 85 => 125 | 86 => 126 | 87 => 127 | n => n, fun | n => n⟩
theorem sl8 : Go.Proofs.LaysGt.n8 Tryd.prog sl8_ren := {
  mixed := by kernel_rfl
  f8 := Tryd.func49.trans (congrArg some (by kernel_rfl))
  f13 := Tryd.func63.trans (congrArg some (by kernel_rfl))
  f14 := Tryd.func64.trans (congrArg some (by kernel_rfl))
  f15 := Tryd.func65.trans (congrArg some (by kernel_rfl))
  f16 := Tryd.func66.trans (congrArg some (by kernel_rfl))
  f29 := Tryd.func78.trans (congrArg some (by kernel_rfl))
  f30 := Tryd.func79.trans (congrArg some (by kernel_rfl))
  f42 := Tryd.func84.trans (congrArg some (by kernel_rfl))
  f49 := Tryd.func90.trans (congrArg some (by kernel_rfl))
  t0 := Tryd.underlying0
  a0 := Tryd.isAgg0
  z0 := Tryd.sizeOf0
  v0 := Tryd.zeroValue0
  i0 := by kernel_rfl
  t3 := Tryd.underlying3
  a3 := Tryd.isAgg3
  z3 := Tryd.sizeOf3
  v3 := Tryd.zeroValue3
  i3 := by kernel_rfl
  t4 := Tryd.underlying4
  a4 := Tryd.isAgg4
  z4 := Tryd.sizeOf4
  v4 := Tryd.zeroValue4
  i4 := by kernel_rfl
  t5 := Tryd.underlying5
  a5 := Tryd.isAgg5
  z5 := Tryd.sizeOf5
  v5 := Tryd.zeroValue5
  i5 := by kernel_rfl
  t12 := Tryd.underlying12
  a12 := Tryd.isAgg12
  z12 := Tryd.sizeOf12
  v12 := Tryd.zeroValue12
  i12 := by kernel_rfl
  t17 := Tryd.underlying17
  a17 := Tryd.isAgg17
  z17 := Tryd.sizeOf17
  v17 := Tryd.zeroValue17
  i17 := by kernel_rfl
  t20 := Tryd.underlying20
  a20 := Tryd.isAgg20
  z20 := Tryd.sizeOf20
  v20 := Tryd.zeroValue20
  i20 := by kernel_rfl
  t26 := Tryd.underlying71
  a26 := Tryd.isAgg71
  z26 := Tryd.sizeOf71
  v26 := Tryd.zeroValue71
  i26 := by kernel_rfl
  t33 := Tryd.underlying83
  a33 := Tryd.isAgg83
  z33 := Tryd.sizeOf83
  v33 := Tryd.zeroValue83
  i33 := by kernel_rfl
  t34 := Tryd.underlying84
  a34 := Tryd.isAgg84
  z34 := Tryd.sizeOf84
  v34 := Tryd.zeroValue84
  i34 := by kernel_rfl
  t36 := Tryd.underlying86
  a36 := Tryd.isAgg86
  z36 := Tryd.sizeOf86
  v36 := Tryd.zeroValue86
  i36 := by kernel_rfl
  t38 := Tryd.underlying88
  a38 := Tryd.isAgg88
  z38 := Tryd.sizeOf88
  v38 := Tryd.zeroValue88
  i38 := by kernel_rfl
  t42 := Tryd.underlying92
  a42 := Tryd.isAgg92
  z42 := Tryd.sizeOf92
  v42 := Tryd.zeroValue92
  i42 := by kernel_rfl
  t47 := Tryd.underlying94
  a47 := Tryd.isAgg94
  z47 := Tryd.sizeOf94
  v47 := Tryd.zeroValue94
  i47 := by kernel_rfl
  t56 := Tryd.underlying109
  a56 := Tryd.isAgg109
  z56 := Tryd.sizeOf109
  v56 := Tryd.zeroValue109
  i56 := by kernel_rfl
  t82 := Tryd.underlying122
  a82 := Tryd.isAgg122
  z82 := Tryd.sizeOf122
  v82 := Tryd.zeroValue122
  i82 := by kernel_rfl
  t83 := Tryd.underlying123
  a83 := Tryd.isAgg123
  z83 := Tryd.sizeOf123
  v83 := Tryd.zeroValue123
  i83 := by kernel_rfl
  t84 := Tryd.underlying124
  a84 := Tryd.isAgg124
  z84 := Tryd.sizeOf124
  v84 := Tryd.zeroValue124
  i84 := by kernel_rfl
  t85 := Tryd.underlying125
  a85 := Tryd.isAgg125
  z85 := Tryd.sizeOf125
  v85 := Tryd.zeroValue125
  i85 := by kernel_rfl
  t86 := Tryd.underlying126
  a86 := Tryd.isAgg126
  z86 := Tryd.sizeOf126
  v86 := Tryd.zeroValue126
  i86 := by kernel_rfl
  t87 := Tryd.underlying127
  a87 := Tryd.isAgg127
  z87 := Tryd.sizeOf127
  v87 := Tryd.zeroValue127
  i87 := by kernel_rfl
  t89 := Tryd.underlying129
  a89 := Tryd.isAgg129
  z89 := Tryd.sizeOf129
  v89 := Tryd.zeroValue129
  i89 := by kernel_rfl }

theorem putCells_same {cur : Array Value} {d : Array Int} {n : Nat} (hs : d.size = n) (h : cur.toList.take n = d.toList.map (Value.int .i64)) : Go.Sort.putCells (Value.int .i64) 0 d cur = cur := by
  apply Array.ext
  · simp [Go.Sort.putCells]
  · intro i h1 h2
    by_cases hi : i < d.size
    · have e : (cur.toList.take n)[i]? = (d.toList.map (Value.int .i64))[i]? := by rw [h]
      rw [List.getElem?_take_of_lt (by omega)] at e
      have e2 : cur[i] = Value.int .i64 d[i] := by
        have h3 : i < cur.toList.length := by simpa using h2
        rw [List.getElem?_eq_getElem h3, List.getElem?_map, Array.getElem?_toList, Array.getElem?_eq_getElem hi] at e
        simpa using e
      simp [Go.Sort.putCells, hi, e2]
    · simp [Go.Sort.putCells, hi]
theorem RowAt.own {w0 W w : World} {base g n c : Nat} {cur : Array Value} {e : TypeId} {d : Array Int} {xs : List Value} (h0 : w.ownsRow base e 1 (.slice (some ⟨g, 0, none⟩) n c) n xs) (hg : w.heap[g]? = some (.cells cur e (0, 0)))
    (h : RowAt w0 g cur e d W) (hs : d.size = n) : W.ownsRow base e 1 (.slice (some ⟨g, 0, none⟩) n c) n (d.toList.map (Value.int .i64)) := by
  refine ⟨by simp [hs], ?_⟩
  rcases h0.2 with ⟨h', _⟩ | ⟨g', cap', cur', h', hb, hg', h1, h2, h3, h4⟩
  · simp at h'
  · simp only [Value.slice.injEq, Option.some.injEq, Addr.mk.injEq, and_true, true_and] at h'
    obtain ⟨rfl, rfl⟩ := h'
    obtain rfl : cur = cur' := by
      rw [hg] at hg'
      simpa using hg'
    refine .inr ⟨g, c, _, rfl, hb, h.row, h1, h2, ?_, ?_⟩
    · unfold Go.Sort.putCells; simpa using h3
    · have := putCells_all (enc := Value.int .i64) (cur := cur) (d := d) (by rw [h3, hs]; omega)
      rw [hs] at this
      rw [Nat.mul_one]; exact this
theorem permIn_list {l : List Int} {d' : Array Int} (hp : PermIn 0 l.length l.toArray d') : d'.toList.Perm l := by
  obtain ⟨hz, -, hpp⟩ := hp
  have hz' : d'.size = l.length := by simpa using hz
  have e1 : (d'.extract 0 l.length) = d' := by rw [← hz']; simp
  rw [e1] at hpp
  simpa using hpp
theorem srt_list {lt' : Int → Int → Bool} {d' : Array Int} {n : Nat} (hz : d'.size = n) (hs : Srt lt' 0 n d') : d'.toList.Pairwise fun a b => lt' a b = true := by
  refine List.pairwise_iff_getElem.2 fun i j hi hj hij => ?_
  have hi' : i < d'.size := by simpa using hi
  have hj' : j < d'.size := by simpa using hj
  have := hs i j (Nat.zero_le _) hij (by omega)
  rw [getElem!_pos d' j hj', getElem!_pos d' i hi'] at this
  simpa using this
theorem arr_nth (d : Array Int) (i : Nat) (hi : i < d.size) : d[i]! = nth d.toList i := by
  rw [nth_eq _ _ (by simpa using hi), getElem!_pos d i hi]; simp
/-- The closure of a stable sort at a row a: what it is asked. -/
def LessAt (gl : Nat) (lb : Array Value) (lt : Int → Int → Bool) (l : List Int) (base : Nat) (ET : TypeId) (a : Option Addr) (n c : Nat) (w : World) : Prop :=
  ∀ (W : World) (d : List Int), d.Perm l → w.grownBy W (a.map (·.block)) → W.ownsRow base ET 1 (.slice a n c) n (d.map (Value.int .i64)) →
    ∀ i j : Nat, i < n → j < n → Calls Tryd.prog gl (#[.int .i64 i, .int .i64 j] ++ lb) W fun x W' => x = .returned (.bool (lt (nth d i) (nth d j))) ∧ Below W.heap.size W W'

theorem stableWorld_grown (ρ : Ren) (t : TypeId) (p : Option Addr) (n c : Nat) (w : World) (r : Option Nat) : w.grownBy (stableWorld Tryd.prog ρ t p n c w) r := by
  unfold stableWorld
  rw [Go.Sort.alloc_eq_grow, Go.Sort.alloc_eq_grow, Go.Sort.grow_grow]
  exact ⟨below_grow.os, below_grow.tape, below_grow.output, below_grow.size, fun k hk _ => below_grow.block k hk⟩
theorem stableWorld_block (ρ : Ren) (t : TypeId) (p : Option Addr) (n c : Nat) (w : World) (g : Nat) (hg : g < w.heap.size) : (stableWorld Tryd.prog ρ t p n c w).heap[g]? = w.heap[g]? :=
  (stableWorld_grown ρ t p n c w none).block g hg (by simp)

noncomputable def kSlS : TypeInfo := (Tryd.prog.info? 49).get (by kernel_rfl)
noncomputable def kSlE : TypeInfo := (Tryd.prog.info? 3).get (by kernel_rfl)
theorem kSlk (n : Nat) (h2 : 2 ≤ n) : Lib.swapperK n kSlE 2 = 5 := by
  have a : kSlE.hasPointers = false := by kernel_rfl
  have b : kSlE.bytes = 8 := by kernel_rfl
  have c : (n == 0) = false := by simp; omega
  have d : (n == 1) = false := by simp; omega
  simp [Lib.swapperK, a, b, c, d]
theorem kSlo (n : Nat) (h2 : n ≤ 1) : Lib.swapperK n kSlE 2 = n + 1 := by
  rcases Nat.eq_zero_or_pos n with h | h
  · subst h; simp [Lib.swapperK]
  · obtain rfl : n = 1 := by omega
    simp [Lib.swapperK]
set_option maxHeartbeats 2000000 in
theorem stableInt_c (g : Nat) (eg : ∀ args w, (callFunc g args).run Tryd.prog w = .ok (.enter g args) w) (lb : Array Value) (lt lt' : Int → Int → Bool) (tr : ∀ x y z, lt' x y = true → lt' y z = true → lt' x z = true)
    (a : Option Addr) (n c base : Nat) (l : List Int) (w : World) (hO : w.ownsRow base 3 1 (.slice a n c) n (l.map (Value.int .i64))) (hn : n = l.length) (hl : l.length ≤ 1000000) (hB : Base lt lt' l.toArray 0 n) (hL : LessAt g lb lt l base 3 a n c w) :
    Calls Tryd.prog 49 #[.iface 49 (.slice a n c), .func (.func g) #[] lb] w fun e w' => e = .returned (.tuple #[]) ∧ ∃ l' : List Int, l'.Perm l ∧ l'.Pairwise (fun x y => lt' x y = true) ∧ w'.ownsRow base 3 1 (.slice a n c) n (l'.map (Value.int .i64)) ∧ w.grownBy w' (a.map (·.block)) := by
  by_cases h2 : 2 ≤ n
  · rcases hO.2 with ⟨h0, h1⟩ | ⟨g0, cap, cur, hv, hbg, hg, h1c, _, h3c, h4c⟩
    · omega
    · obtain ⟨rfl, rfl⟩ : a = some ⟨g0, 0, none⟩ ∧ c = cap := by injection hv with h1 h2 h3; exact ⟨h1, h3⟩
      have hgs : g0 < w.heap.size := by
        rcases Nat.lt_or_ge g0 w.heap.size with h | h
        · exact h
        · rw [Array.getElem?_eq_none h] at hg; exact absurd hg (by simp)
      have hsz : l.toArray.size = n := by simp [hn]
      have hsame : Go.Sort.putCells (Value.int .i64) 0 l.toArray cur = cur := putCells_same hsz (by rw [← h4c, Nat.mul_one])
      have hS := Any.sort_SliceStable_of_stable sl8 49 3 kSlS kSlE (by kernel_rfl) (by kernel_rfl) (by kernel_rfl) (by kernel_rfl) 2 (fun _ => by kernel_rfl) (some ⟨g0, 0, none⟩) n c (by omega) 73 (by rw [kSlk _ h2]; kernel_rfl) (.func g) #[] lb w
        (fun w' => ∃ l' : List Int, l'.Perm l ∧ l'.Pairwise (fun x y => lt' x y = true) ∧ w'.ownsRow base 3 1 (.slice (some ⟨g0, 0, none⟩) n c) n (l'.map (Value.int .i64)) ∧ w.grownBy w' (some g0)) ?_
      · change Calls Tryd.prog 49 _ _ _ at hS
        exact hS
      · have hbd : sliceBound Tryd.prog 3 kSlE 2 (some ⟨g0, 0, none⟩) n c = #[.slice (some ⟨g0, 0, none⟩) n c, typeHandle Tryd.prog 3] := by
          unfold sliceBound; rw [if_neg (swapperK_gt _ _ _ h2)]
        rw [hbd]
        change Calls Tryd.prog 65 _ _ _
        refine Calls.mono (stable_c (w0 := w) (g := g0) (n := n) (cur := cur) (e := 3) (lt := lt) (lt' := lt') (d0 := l.toArray) ⟨?_, ?_, eg, tr, by omega, hsz⟩ _ ⟨stableWorld_grown _ _ _ _ _ _ _, ?_⟩ hB) ?_
        · intro W d hR hd i j hi hj
          have := swapSwaps_of_literal (P := Tryd.prog) true 73 (fun args W => run_callFunc_extern Tryd.func73 (by kernel_rfl) (by kernel_rfl) (by kernel_rfl) (e := Extern.ReflectliteSwapper.swap true) (by kernel_rfl) args W) 3 kSlE (by kernel_rfl) (by kernel_rfl) (fun _ => by kernel_rfl) (Value.int .i64) (fun _ => rfl) g0 0 n c W d (hR.holds (by omega)) hd i j hi hj
          rw [Nat.zero_add, Nat.zero_add] at this
          exact this
        · intro W d hR hp i j hi hj
          have hds : d.size = n := hp.1.trans hsz
          have := hL W d.toList (permIn_list (by rw [← hn]; exact hp)) hR.grown (hR.own hO hg hds) i j hi hj
          rw [arr_nth d i (by omega), arr_nth d j (by omega)]
          exact this
        · rw [stableWorld_block _ _ _ _ _ _ _ hgs, hsame]; exact hg
        · rintro x W' ⟨rfl, d', hR, hp, hs⟩
          have hds : d'.size = n := hp.1.trans hsz
          exact ⟨rfl, d'.toList, permIn_list (by rw [← hn]; exact hp), srt_list hds hs, hR.own hO hg hds, grown_trans (stableWorld_grown _ _ _ _ _ _ _) hR.grown⟩
  · have hS := Any.sort_SliceStable_tiny sl8 49 3 kSlS kSlE (by kernel_rfl) (by kernel_rfl) (by kernel_rfl) (by kernel_rfl) 2 (fun _ => by kernel_rfl) a n c (by omega) (69 + n) (by
      rw [kSlo n (by omega)]
      rcases Nat.eq_zero_or_pos n with h | h
      · subst h; kernel_rfl
      · obtain rfl : n = 1 := by omega
        kernel_rfl) (.func g) #[] lb w
    change Calls Tryd.prog 49 _ _ _ at hS
    refine hS.mono ?_
    rintro e w' ⟨rfl, os, rfl⟩
    have hb : Below w.heap.size w (Go.Sort.grow w os) := below_grow
    refine ⟨rfl, l, List.Perm.refl _, ?_, own_below hO hb, ⟨hb.os, hb.tape, hb.output, hb.size, fun k hk _ => hb.block k hk⟩⟩
    match l, hn with
    | [], _ => exact List.Pairwise.nil
    | [x], _ => exact List.pairwise_singleton _ _
    | x :: y :: r, hn => simp at hn; omega
end Go.Proofs.YtclffohjpbmnbaaDoor

/- OrdK: what a sort of indices wants to know of memory. -/
namespace Go.Proofs.YtclffohjpbmnbaaDoor
open Go.ChangeShapes Go.WideShapes Go.ChangeAt Go.RowKit

theorem BoxIs.grown {w w' : World} {b : Nat} {l : List Value} {row : Option Nat} (h : BoxIs w b l) (hg : w.grownBy w' row) (hr : some b ≠ row) : BoxIs w' b l :=
  ⟨Nat.lt_of_lt_of_le h.1 hg.size, fun j => (World.cell?_of_block (a := ⟨b, j, none⟩) (hg.block b h.1 hr)).trans (h.2.1 j), fun j => (World.frozen?_of_block (a := ⟨b, j, none⟩) (hg.block b h.1 hr)).trans (h.2.2 j)⟩
theorem own_kc {w : World} {base : Nat} {e : TypeId} {a : Option Addr} {n c : Nat} {l : List Int} (ho : w.ownsRow base e 1 (.slice a n c) n (l.map (Value.int .i64))) (hn : n = l.length) : IntsC w a l := by
  have hlt := ho.lt
  rcases ho.2 with ⟨h, h0⟩ | ⟨g, cap, cur, h, hb, hg, hnc, hcm, hcs, htake⟩
  · intro i hi; omega
  · injection h with h1 h2 h3
    subst h1
    refine fun i hi => ⟨g, 0, rfl, (hlt g rfl).2, ?_⟩
    have := ho.cellAt i (by omega)
    rw [Nat.zero_add, this, List.getElem?_map, nth_get? l i hi]; rfl
theorem base_iota (k1 k2 : Int → Int) (n : Nat) : Base (ltK k1 k2) (ltT k1 k2) (iota n).toArray 0 n := by
  intro i j _ hij hj
  rw [arr_nth _ i (by simp [iota_len]; omega), arr_nth _ j (by simp [iota_len]; omega), iota_nth n i (by omega), iota_nth n j hj]
  have hlt : ((i : Nat) : Int) < (j : Int) := by omega
  refine ⟨fun h => by rw [ltT_late k1 k2 hlt]; exact h, fun h => by rw [ltT_early k1 k2 hlt, h]; rfl⟩
theorem own_block_slice (a : Option Addr) (n c : Nat) : (Value.slice a n c).ownBlock = a.map (·.block) := by cases a <;> rfl
theorem kown_off {w : World} {base : Nat} {e : TypeId} {size : Nat} {v : Value} {n : Nat} {xs : List Value} (h : w.ownsRow base e size v n xs) (p : Addr) (hp : v.ownBlock ≠ some p.block) (u : Value) : (w.setCell p u).ownsRow base e size v n xs :=
  h.kept (row := some p.block) ⟨rfl, rfl, rfl, by simp [World.setCell], fun k _ hk => Below.heap_setCell _ _ _ _ (fun e => hk (by rw [e]))⟩ (.inr hp)
end Go.Proofs.YtclffohjpbmnbaaDoor
