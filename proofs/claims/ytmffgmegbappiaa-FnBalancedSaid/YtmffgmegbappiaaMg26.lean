import Derived.Test.YtmffgmegbappiaaMg25
import Derived.Test.YtmffgmegbappiaaMg5
import Derived.Test.YtmffgmegbappiaaMg12
import Derived.Shelf.GgSortMore.Stable
import Derived.Ground.GgtProg
import Derived.Test.YtmffgmegbappiaaMg20
/- StableE: sort.SliceStable at numbers that the call owns, at whatever length; the closure may allocate. -/
namespace Go.Proofs.Ytmffgmegbappiaa
open Go.ChangeShapes Go.WideShapes Go.ChangeAt Go.RowKit Go.Lib Go.Shelf
open Go.Sort (swp PermIn)

def sl8_ren : Go.Shelf.Ren := ⟨fun | 8 => 59 | 13 => 64 | 14 => 65 | 16 => 66 | 15 => 71 | 29 => 83 | 30 => 91 | 42 => 97 | 49 => 99 | n => n, fun | 20 => 20 | 26 => 69 | 36 => 82 | 0 => 0 | 38 => 84 | 42 => 91 | 3 => 3 | 4 => 4 | 47 => 88 | 17 => 17 | 33 => 79 | 34 => 80 | 89 => 129 | 12 => 12 | 56 => 97 | 82 => 122 | 5 => 5 | 83 => 123 | 84 => 124 | 85 => 125 | 86 => 126 | 87 => 127 | n => n, fun | n => n⟩
theorem sl8 : Go.Proofs.LaysGt.n8 Try.prog sl8_ren := {
  mixed := by kernel_rfl
  f8 := Try.func59.trans (congrArg some (by kernel_rfl))
  f13 := Try.func64.trans (congrArg some (by kernel_rfl))
  f14 := Try.func65.trans (congrArg some (by kernel_rfl))
  f15 := Try.func71.trans (congrArg some (by kernel_rfl))
  f16 := Try.func66.trans (congrArg some (by kernel_rfl))
  f29 := Try.func83.trans (congrArg some (by kernel_rfl))
  f30 := Try.func91.trans (congrArg some (by kernel_rfl))
  f42 := Try.func97.trans (congrArg some (by kernel_rfl))
  f49 := Try.func99.trans (congrArg some (by kernel_rfl))
  t0 := Try.underlying0
  a0 := Try.isAgg0
  z0 := Try.sizeOf0
  v0 := Try.zeroValue0
  i0 := by kernel_rfl
  t3 := Try.underlying3
  a3 := Try.isAgg3
  z3 := Try.sizeOf3
  v3 := Try.zeroValue3
  i3 := by kernel_rfl
  t4 := Try.underlying4
  a4 := Try.isAgg4
  z4 := Try.sizeOf4
  v4 := Try.zeroValue4
  i4 := by kernel_rfl
  t5 := Try.underlying5
  a5 := Try.isAgg5
  z5 := Try.sizeOf5
  v5 := Try.zeroValue5
  i5 := by kernel_rfl
  t12 := Try.underlying12
  a12 := Try.isAgg12
  z12 := Try.sizeOf12
  v12 := Try.zeroValue12
  i12 := by kernel_rfl
  t17 := Try.underlying17
  a17 := Try.isAgg17
  z17 := Try.sizeOf17
  v17 := Try.zeroValue17
  i17 := by kernel_rfl
  t20 := Try.underlying20
  a20 := Try.isAgg20
  z20 := Try.sizeOf20
  v20 := Try.zeroValue20
  i20 := by kernel_rfl
  t26 := Try.underlying69
  a26 := Try.isAgg69
  z26 := Try.sizeOf69
  v26 := Try.zeroValue69
  i26 := by kernel_rfl
  t33 := Try.underlying79
  a33 := Try.isAgg79
  z33 := Try.sizeOf79
  v33 := Try.zeroValue79
  i33 := by kernel_rfl
  t34 := Try.underlying80
  a34 := Try.isAgg80
  z34 := Try.sizeOf80
  v34 := Try.zeroValue80
  i34 := by kernel_rfl
  t36 := Try.underlying82
  a36 := Try.isAgg82
  z36 := Try.sizeOf82
  v36 := Try.zeroValue82
  i36 := by kernel_rfl
  t38 := Try.underlying84
  a38 := Try.isAgg84
  z38 := Try.sizeOf84
  v38 := Try.zeroValue84
  i38 := by kernel_rfl
  t42 := Try.underlying91
  a42 := Try.isAgg91
  z42 := Try.sizeOf91
  v42 := Try.zeroValue91
  i42 := by kernel_rfl
  t47 := Try.underlying88
  a47 := Try.isAgg88
  z47 := Try.sizeOf88
  v47 := Try.zeroValue88
  i47 := by kernel_rfl
  t56 := Try.underlying97
  a56 := Try.isAgg97
  z56 := Try.sizeOf97
  v56 := Try.zeroValue97
  i56 := by kernel_rfl
  t82 := Try.underlying122
  a82 := Try.isAgg122
  z82 := Try.sizeOf122
  v82 := Try.zeroValue122
  i82 := by kernel_rfl
  t83 := Try.underlying123
  a83 := Try.isAgg123
  z83 := Try.sizeOf123
  v83 := Try.zeroValue123
  i83 := by kernel_rfl
  t84 := Try.underlying124
  a84 := Try.isAgg124
  z84 := Try.sizeOf124
  v84 := Try.zeroValue124
  i84 := by kernel_rfl
  t85 := Try.underlying125
  a85 := Try.isAgg125
  z85 := Try.sizeOf125
  v85 := Try.zeroValue125
  i85 := by kernel_rfl
  t86 := Try.underlying126
  a86 := Try.isAgg126
  z86 := Try.sizeOf126
  v86 := Try.zeroValue126
  i86 := by kernel_rfl
  t87 := Try.underlying127
  a87 := Try.isAgg127
  z87 := Try.sizeOf127
  v87 := Try.zeroValue127
  i87 := by kernel_rfl
  t89 := Try.underlying129
  a89 := Try.isAgg129
  z89 := Try.sizeOf129
  v89 := Try.zeroValue129
  i89 := by kernel_rfl }

theorem putCells_same {cur : Array Value} {d : Array Int} {n : Nat} (hs : d.size = n) (h : cur.toList.take n = d.toList.map (Value.int .i64)) : Go.Sort.putCells (Value.int .i64) 0 d cur = cur := by
  apply Array.ext
  · simp [Go.Sort.putCells]
  · intro i h1 h2
    by_cases hi : i < d.size
    · have e : (cur.toList.take n)[i]? = (d.toList.map (Value.int .i64))[i]? := by rw [h]
      rw [List.getElem?_take_of_lt (by omega)] at e
      have e2 : cur[i] = Value.int .i64 d[i] := by
        have h3 : i < cur.toList.length := by simpa using h2
        rw [List.getElem?_eq_getElem h3, List.getElem?_map, Array.getElem?_toList, Array.getElem?_eq_getElem hi] at e
        simpa using e
      simp [Go.Sort.putCells, hi, e2]
    · simp [Go.Sort.putCells, hi]
theorem RowAt.own {w0 W w : World} {base g n c : Nat} {cur : Array Value} {e : TypeId} {d : Array Int} {xs : List Value} (h0 : w.ownsRow base e 1 (.slice (some ⟨g, 0, none⟩) n c) n xs) (hg : w.heap[g]? = some (.cells cur e (0, 0)))
    (h : RowAt w0 g cur e d W) (hs : d.size = n) : W.ownsRow base e 1 (.slice (some ⟨g, 0, none⟩) n c) n (d.toList.map (Value.int .i64)) := by
  refine ⟨by simp [hs], ?_⟩
  rcases h0.2 with ⟨h', _⟩ | ⟨g', cap', cur', h', hb, hg', h1, h2, h3, h4⟩
  · simp at h'
  · simp only [Value.slice.injEq, Option.some.injEq, Addr.mk.injEq, and_true, true_and] at h'
    obtain ⟨rfl, rfl⟩ := h'
    obtain rfl : cur = cur' := by
      rw [hg] at hg'
      simpa using hg'
    refine .inr ⟨g, c, _, rfl, hb, h.row, h1, h2, ?_, ?_⟩
    · unfold Go.Sort.putCells; simpa using h3
    · have := putCells_all (enc := Value.int .i64) (cur := cur) (d := d) (by rw [h3, hs]; omega)
      rw [hs] at this
      rw [Nat.mul_one]; exact this
theorem permIn_list {l : List Int} {d' : Array Int} (hp : PermIn 0 l.length l.toArray d') : d'.toList.Perm l := by
  obtain ⟨hz, -, hpp⟩ := hp
  have hz' : d'.size = l.length := by simpa using hz
  have e1 : (d'.extract 0 l.length) = d' := by rw [← hz']; simp
  rw [e1] at hpp
  simpa using hpp
theorem srt_list {lt' : Int → Int → Bool} {d' : Array Int} {n : Nat} (hz : d'.size = n) (hs : Srt lt' 0 n d') : d'.toList.Pairwise fun a b => lt' a b = true := by
  refine List.pairwise_iff_getElem.2 fun i j hi hj hij => ?_
  have hi' : i < d'.size := by simpa using hi
  have hj' : j < d'.size := by simpa using hj
  have := hs i j (Nat.zero_le _) hij (by omega)
  rw [getElem!_pos d' j hj', getElem!_pos d' i hi'] at this
  simpa using this
theorem arr_nth (d : Array Int) (i : Nat) (hi : i < d.size) : d[i]! = nth d.toList i := by
  rw [nth_eq _ _ (by simpa using hi), getElem!_pos d i hi]; simp
/-- The closure of a stable sort at a row a: what it is asked. -/
def LessAt (gl : Nat) (lb : Array Value) (lt : Int → Int → Bool) (l : List Int) (base : Nat) (ET : TypeId) (a : Option Addr) (n c : Nat) (w : World) : Prop :=
  ∀ (W : World) (d : List Int), d.Perm l → w.grownBy W (a.map (·.block)) → W.ownsRow base ET 1 (.slice a n c) n (d.map (Value.int .i64)) →
    ∀ i j : Nat, i < n → j < n → Calls Try.prog gl (#[.int .i64 i, .int .i64 j] ++ lb) W fun x W' => x = .returned (.bool (lt (nth d i) (nth d j))) ∧ Below W.heap.size W W'

theorem stableWorld_grown (ρ : Ren) (t : TypeId) (p : Option Addr) (n c : Nat) (w : World) (r : Option Nat) : w.grownBy (stableWorld Try.prog ρ t p n c w) r := by
  unfold stableWorld
  rw [Go.Sort.alloc_eq_grow, Go.Sort.alloc_eq_grow, Go.Sort.grow_grow]
  exact ⟨below_grow.os, below_grow.tape, below_grow.output, below_grow.size, fun k hk _ => below_grow.block k hk⟩
theorem stableWorld_block (ρ : Ren) (t : TypeId) (p : Option Addr) (n c : Nat) (w : World) (g : Nat) (hg : g < w.heap.size) : (stableWorld Try.prog ρ t p n c w).heap[g]? = w.heap[g]? :=
  (stableWorld_grown ρ t p n c w none).block g hg (by simp)

noncomputable def kSlS : TypeInfo := (Try.prog.info? 59).get (by kernel_rfl)
noncomputable def kSlE : TypeInfo := (Try.prog.info? 3).get (by kernel_rfl)
theorem kSlk (n : Nat) (h2 : 2 ≤ n) : Lib.swapperK n kSlE 2 = 5 := by
  have a : kSlE.hasPointers = false := by kernel_rfl
  have b : kSlE.bytes = 8 := by kernel_rfl
  have c : (n == 0) = false := by simp; omega
  have d : (n == 1) = false := by simp; omega
  simp [Lib.swapperK, a, b, c, d]
theorem kSlo (n : Nat) (h2 : n ≤ 1) : Lib.swapperK n kSlE 2 = n + 1 := by
  rcases Nat.eq_zero_or_pos n with h | h
  · subst h; simp [Lib.swapperK]
  · obtain rfl : n = 1 := by omega
    simp [Lib.swapperK]
set_option maxHeartbeats 2000000 in
theorem stableInt_c (g : Nat) (eg : ∀ args w, (callFunc g args).run Try.prog w = .ok (.enter g args) w) (lb : Array Value) (lt lt' : Int → Int → Bool) (tr : ∀ x y z, lt' x y = true → lt' y z = true → lt' x z = true)
    (a : Option Addr) (n c base : Nat) (l : List Int) (w : World) (hO : w.ownsRow base 3 1 (.slice a n c) n (l.map (Value.int .i64))) (hn : n = l.length) (hl : l.length ≤ 1000000) (hB : Base lt lt' l.toArray 0 n) (hL : LessAt g lb lt l base 3 a n c w) :
    Calls Try.prog 59 #[.iface 59 (.slice a n c), .func (.func g) #[] lb] w fun e w' => e = .returned (.tuple #[]) ∧ ∃ l' : List Int, l'.Perm l ∧ l'.Pairwise (fun x y => lt' x y = true) ∧ w'.ownsRow base 3 1 (.slice a n c) n (l'.map (Value.int .i64)) ∧ w.grownBy w' (a.map (·.block)) := by
  by_cases h2 : 2 ≤ n
  · rcases hO.2 with ⟨h0, h1⟩ | ⟨g0, cap, cur, hv, hbg, hg, h1c, _, h3c, h4c⟩
    · omega
    · obtain ⟨rfl, rfl⟩ : a = some ⟨g0, 0, none⟩ ∧ c = cap := by injection hv with h1 h2 h3; exact ⟨h1, h3⟩
      have hgs : g0 < w.heap.size := by
        rcases Nat.lt_or_ge g0 w.heap.size with h | h
        · exact h
        · rw [Array.getElem?_eq_none h] at hg; exact absurd hg (by simp)
      have hsz : l.toArray.size = n := by simp [hn]
      have hsame : Go.Sort.putCells (Value.int .i64) 0 l.toArray cur = cur := putCells_same hsz (by rw [← h4c, Nat.mul_one])
      have hS := Any.sort_SliceStable_of_stable sl8 59 3 kSlS kSlE (by kernel_rfl) (by kernel_rfl) (by kernel_rfl) (by kernel_rfl) 2 (fun _ => by kernel_rfl) (some ⟨g0, 0, none⟩) n c (by omega) 76 (by rw [kSlk _ h2]; kernel_rfl) (.func g) #[] lb w
        (fun w' => ∃ l' : List Int, l'.Perm l ∧ l'.Pairwise (fun x y => lt' x y = true) ∧ w'.ownsRow base 3 1 (.slice (some ⟨g0, 0, none⟩) n c) n (l'.map (Value.int .i64)) ∧ w.grownBy w' (some g0)) ?_
      · change Calls Try.prog 59 _ _ _ at hS
        exact hS
      · have hbd : sliceBound Try.prog 3 kSlE 2 (some ⟨g0, 0, none⟩) n c = #[.slice (some ⟨g0, 0, none⟩) n c, typeHandle Try.prog 3] := by
          unfold sliceBound; rw [if_neg (swapperK_gt _ _ _ h2)]
        rw [hbd]
        change Calls Try.prog 71 _ _ _
        refine Calls.mono (stable_c (w0 := w) (g := g0) (n := n) (cur := cur) (e := 3) (lt := lt) (lt' := lt') (d0 := l.toArray) ⟨?_, ?_, eg, tr, by omega, hsz⟩ _ ⟨stableWorld_grown _ _ _ _ _ _ _, ?_⟩ hB) ?_
        · intro W d hR hd i j hi hj
          have := swapSwaps_of_literal (P := Try.prog) true 76 (fun args W => run_callFunc_extern Try.func76 (by kernel_rfl) (by kernel_rfl) (by kernel_rfl) (e := Extern.ReflectliteSwapper.swap true) (by kernel_rfl) args W) 3 kSlE (by kernel_rfl) (by kernel_rfl) (fun _ => by kernel_rfl) (Value.int .i64) (fun _ => rfl) g0 0 n c W d (hR.holds (by omega)) hd i j hi hj
          rw [Nat.zero_add, Nat.zero_add] at this
          exact this
        · intro W d hR hp i j hi hj
          have hds : d.size = n := hp.1.trans hsz
          have := hL W d.toList (permIn_list (by rw [← hn]; exact hp)) hR.grown (hR.own hO hg hds) i j hi hj
          rw [arr_nth d i (by omega), arr_nth d j (by omega)]
          exact this
        · rw [stableWorld_block _ _ _ _ _ _ _ hgs, hsame]; exact hg
        · rintro x W' ⟨rfl, d', hR, hp, hs⟩
          have hds : d'.size = n := hp.1.trans hsz
          exact ⟨rfl, d'.toList, permIn_list (by rw [← hn]; exact hp), srt_list hds hs, hR.own hO hg hds, grown_trans (stableWorld_grown _ _ _ _ _ _ _) hR.grown⟩
  · have hS := Any.sort_SliceStable_tiny sl8 59 3 kSlS kSlE (by kernel_rfl) (by kernel_rfl) (by kernel_rfl) (by kernel_rfl) 2 (fun _ => by kernel_rfl) a n c (by omega) (72 + n) (by
      rw [kSlo n (by omega)]
      rcases Nat.eq_zero_or_pos n with h | h
      · subst h; kernel_rfl
      · obtain rfl : n = 1 := by omega
        kernel_rfl) (.func g) #[] lb w
    change Calls Try.prog 59 _ _ _ at hS
    refine hS.mono ?_
    rintro e w' ⟨rfl, os, rfl⟩
    have hb : Below w.heap.size w (Go.Sort.grow w os) := below_grow
    refine ⟨rfl, l, List.Perm.refl _, ?_, own_below hO hb, ⟨hb.os, hb.tape, hb.output, hb.size, fun k hk _ => hb.block k hk⟩⟩
    match l, hn with
    | [], _ => exact List.Pairwise.nil
    | [x], _ => exact List.pairwise_singleton _ _
    | x :: y :: r, hn => simp at hn; omega
end Go.Proofs.Ytmffgmegbappiaa

/- OrdK: what a sort of indices wants to know of memory. -/
namespace Go.Proofs.Ytmffgmegbappiaa
open Go.ChangeShapes Go.WideShapes Go.ChangeAt Go.RowKit

theorem BoxIs.grown {w w' : World} {b : Nat} {l : List Value} {row : Option Nat} (h : BoxIs w b l) (hg : w.grownBy w' row) (hr : some b ≠ row) : BoxIs w' b l :=
  ⟨Nat.lt_of_lt_of_le h.1 hg.size, fun j => (World.cell?_of_block (a := ⟨b, j, none⟩) (hg.block b h.1 hr)).trans (h.2.1 j), fun j => (World.frozen?_of_block (a := ⟨b, j, none⟩) (hg.block b h.1 hr)).trans (h.2.2 j)⟩
theorem own_kc {w : World} {base : Nat} {e : TypeId} {a : Option Addr} {n c : Nat} {l : List Int} (ho : w.ownsRow base e 1 (.slice a n c) n (l.map (Value.int .i64))) (hn : n = l.length) : IntsC w a l := by
  have hlt := ho.lt
  rcases ho.2 with ⟨h, h0⟩ | ⟨g, cap, cur, h, hb, hg, hnc, hcm, hcs, htake⟩
  · intro i hi; omega
  · injection h with h1 h2 h3
    subst h1
    refine fun i hi => ⟨g, 0, rfl, (hlt g rfl).2, ?_⟩
    have := ho.cellAt i (by omega)
    rw [Nat.zero_add, this, List.getElem?_map, nth_get? l i hi]; rfl
theorem base_iota (k1 k2 : Int → Int) (n : Nat) : Base (ltK k1 k2) (ltT k1 k2) (iota n).toArray 0 n := by
  intro i j _ hij hj
  rw [arr_nth _ i (by simp [iota_len]; omega), arr_nth _ j (by simp [iota_len]; omega), iota_nth n i (by omega), iota_nth n j hj]
  have hlt : ((i : Nat) : Int) < (j : Int) := by omega
  refine ⟨fun h => by rw [ltT_late k1 k2 hlt]; exact h, fun h => by rw [ltT_early k1 k2 hlt, h]; rfl⟩
theorem own_block_slice (a : Option Addr) (n c : Nat) : (Value.slice a n c).ownBlock = a.map (·.block) := by cases a <;> rfl
theorem kown_off {w : World} {base : Nat} {e : TypeId} {size : Nat} {v : Value} {n : Nat} {xs : List Value} (h : w.ownsRow base e size v n xs) (p : Addr) (hp : v.ownBlock ≠ some p.block) (u : Value) : (w.setCell p u).ownsRow base e size v n xs :=
  h.kept (row := some p.block) ⟨rfl, rfl, rfl, by simp [World.setCell], fun k _ hk => Below.heap_setCell _ _ _ _ (fun e => hk (by rw [e]))⟩ (.inr hp)
end Go.Proofs.Ytmffgmegbappiaa
