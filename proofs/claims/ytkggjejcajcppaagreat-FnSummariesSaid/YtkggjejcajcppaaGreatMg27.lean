import Derived.Test.YtkggjejcajcppaaGreatMg26
import Derived.Test.YtkggjejcajcppaaGreatMg2
import Derived.Test.YtkggjejcajcppaaGreatMg8
import Derived.Shelf.GgSortFunc.Whole
import Derived.Shelf.GgSortFunc.Tiny
import Derived.Ground.GgsProg
/- SortI: sort.Slice at numbers that the call owns. -/
namespace Go.Proofs.YtkggjejcajcppaaGreat
open Go.ChangeShapes Go.WideShapes Go.ChangeAt Go.RowKit Go.Lib Go.Shelf

def sl6_ren : Go.Shelf.Ren := ⟨fun | 6 => 24 | 10 => 43 | 11 => 44 | 12 => 45 | 13 => 46 | 14 => 47 | 24 => 74 | 25 => 75 | 26 => 76 | 27 => 77 | 28 => 78 | 29 => 79 | 30 => 80 | 31 => 81 | 32 => 82 | 33 => 83 | 34 => 93 | 35 => 94 | 36 => 95 | 37 => 96 | 38 => 97 | 39 => 100 | n => n, fun | 20 => 20 | 26 => 43 | 35 => 57 | 0 => 0 | 37 => 59 | 3 => 3 | 41 => 63 | 44 => 66 | 49 => 85 | 51 => 67 | 4 => 4 | 54 => 89 | 53 => 88 | 58 => 93 | 5 => 5 | 9 => 9 | 60 => 99 | 64 => 103 | 66 => 105 | 67 => 106 | 17 => 17 | 32 => 54 | 33 => 55 | 82 => 121 | 12 => 12 | 75 => 114 | 76 => 115 | 77 => 116 | 78 => 117 | 79 => 118 | 80 => 119 | n => n, fun | n => n⟩
theorem sl6 : Go.Proofs.LaysGg.n6 Tryz.prog sl6_ren := {
  mixed := by kernel_rfl
  f6 := Tryz.func24.trans (congrArg some (by kernel_rfl))
  f10 := Tryz.func43.trans (congrArg some (by kernel_rfl))
  f11 := Tryz.func44.trans (congrArg some (by kernel_rfl))
  f12 := Tryz.func45.trans (congrArg some (by kernel_rfl))
  f13 := Tryz.func46.trans (congrArg some (by kernel_rfl))
  f14 := Tryz.func47.trans (congrArg some (by kernel_rfl))
  f24 := Tryz.func74.trans (congrArg some (by kernel_rfl))
  f25 := Tryz.func75.trans (congrArg some (by kernel_rfl))
  f26 := Tryz.func76.trans (congrArg some (by kernel_rfl))
  f27 := Tryz.func77.trans (congrArg some (by kernel_rfl))
  f28 := Tryz.func78.trans (congrArg some (by kernel_rfl))
  f29 := Tryz.func79.trans (congrArg some (by kernel_rfl))
  f30 := Tryz.func80.trans (congrArg some (by kernel_rfl))
  f31 := Tryz.func81.trans (congrArg some (by kernel_rfl))
  f32 := Tryz.func82.trans (congrArg some (by kernel_rfl))
  f33 := Tryz.func83.trans (congrArg some (by kernel_rfl))
  f34 := Tryz.func93.trans (congrArg some (by kernel_rfl))
  f35 := Tryz.func94.trans (congrArg some (by kernel_rfl))
  f36 := Tryz.func95.trans (congrArg some (by kernel_rfl))
  f37 := Tryz.func96.trans (congrArg some (by kernel_rfl))
  f38 := Tryz.func97.trans (congrArg some (by kernel_rfl))
  f39 := Tryz.func100.trans (congrArg some (by kernel_rfl))
  t0 := Tryz.underlying0
  a0 := Tryz.isAgg0
  z0 := Tryz.sizeOf0
  v0 := Tryz.zeroValue0
  i0 := by kernel_rfl
  t3 := Tryz.underlying3
  a3 := Tryz.isAgg3
  z3 := Tryz.sizeOf3
  v3 := Tryz.zeroValue3
  i3 := by kernel_rfl
  t4 := Tryz.underlying4
  a4 := Tryz.isAgg4
  z4 := Tryz.sizeOf4
  v4 := Tryz.zeroValue4
  i4 := by kernel_rfl
  t5 := Tryz.underlying5
  a5 := Tryz.isAgg5
  z5 := Tryz.sizeOf5
  v5 := Tryz.zeroValue5
  i5 := by kernel_rfl
  t9 := Tryz.underlying9
  a9 := Tryz.isAgg9
  z9 := Tryz.sizeOf9
  v9 := Tryz.zeroValue9
  i9 := by kernel_rfl
  t12 := Tryz.underlying12
  a12 := Tryz.isAgg12
  z12 := Tryz.sizeOf12
  v12 := Tryz.zeroValue12
  i12 := by kernel_rfl
  t17 := Tryz.underlying17
  a17 := Tryz.isAgg17
  z17 := Tryz.sizeOf17
  v17 := Tryz.zeroValue17
  i17 := by kernel_rfl
  t20 := Tryz.underlying20
  a20 := Tryz.isAgg20
  z20 := Tryz.sizeOf20
  v20 := Tryz.zeroValue20
  i20 := by kernel_rfl
  t26 := Tryz.underlying43
  a26 := Tryz.isAgg43
  z26 := Tryz.sizeOf43
  v26 := Tryz.zeroValue43
  i26 := by kernel_rfl
  t32 := Tryz.underlying54
  a32 := Tryz.isAgg54
  z32 := Tryz.sizeOf54
  v32 := Tryz.zeroValue54
  i32 := by kernel_rfl
  t33 := Tryz.underlying55
  a33 := Tryz.isAgg55
  z33 := Tryz.sizeOf55
  v33 := Tryz.zeroValue55
  i33 := by kernel_rfl
  t35 := Tryz.underlying57
  a35 := Tryz.isAgg57
  z35 := Tryz.sizeOf57
  v35 := Tryz.zeroValue57
  i35 := by kernel_rfl
  t37 := Tryz.underlying59
  a37 := Tryz.isAgg59
  z37 := Tryz.sizeOf59
  v37 := Tryz.zeroValue59
  i37 := by kernel_rfl
  t41 := Tryz.underlying63
  a41 := Tryz.isAgg63
  z41 := Tryz.sizeOf63
  v41 := Tryz.zeroValue63
  i41 := by kernel_rfl
  t44 := Tryz.underlying66
  a44 := Tryz.isAgg66
  z44 := Tryz.sizeOf66
  v44 := Tryz.zeroValue66
  i44 := by kernel_rfl
  t49 := Tryz.underlying85
  a49 := Tryz.isAgg85
  z49 := Tryz.sizeOf85
  v49 := Tryz.zeroValue85
  i49 := by kernel_rfl
  t51 := Tryz.underlying67
  a51 := Tryz.isAgg67
  z51 := Tryz.sizeOf67
  v51 := Tryz.zeroValue67
  i51 := by kernel_rfl
  t53 := Tryz.underlying88
  a53 := Tryz.isAgg88
  z53 := Tryz.sizeOf88
  v53 := Tryz.zeroValue88
  i53 := by kernel_rfl
  t54 := Tryz.underlying89
  a54 := Tryz.isAgg89
  z54 := Tryz.sizeOf89
  v54 := Tryz.zeroValue89
  i54 := by kernel_rfl
  t58 := Tryz.underlying93
  a58 := Tryz.isAgg93
  z58 := Tryz.sizeOf93
  v58 := Tryz.zeroValue93
  i58 := by kernel_rfl
  t60 := Tryz.underlying99
  a60 := Tryz.isAgg99
  z60 := Tryz.sizeOf99
  v60 := Tryz.zeroValue99
  i60 := by kernel_rfl
  t64 := Tryz.underlying103
  a64 := Tryz.isAgg103
  z64 := Tryz.sizeOf103
  v64 := Tryz.zeroValue103
  i64 := by kernel_rfl
  t66 := Tryz.underlying105
  a66 := Tryz.isAgg105
  z66 := Tryz.sizeOf105
  v66 := Tryz.zeroValue105
  i66 := by kernel_rfl
  t67 := Tryz.underlying106
  a67 := Tryz.isAgg106
  z67 := Tryz.sizeOf106
  v67 := Tryz.zeroValue106
  i67 := by kernel_rfl
  t75 := Tryz.underlying114
  a75 := Tryz.isAgg114
  z75 := Tryz.sizeOf114
  v75 := Tryz.zeroValue114
  i75 := by kernel_rfl
  t76 := Tryz.underlying115
  a76 := Tryz.isAgg115
  z76 := Tryz.sizeOf115
  v76 := Tryz.zeroValue115
  i76 := by kernel_rfl
  t77 := Tryz.underlying116
  a77 := Tryz.isAgg116
  z77 := Tryz.sizeOf116
  v77 := Tryz.zeroValue116
  i77 := by kernel_rfl
  t78 := Tryz.underlying117
  a78 := Tryz.isAgg117
  z78 := Tryz.sizeOf117
  v78 := Tryz.zeroValue117
  i78 := by kernel_rfl
  t79 := Tryz.underlying118
  a79 := Tryz.isAgg118
  z79 := Tryz.sizeOf118
  v79 := Tryz.zeroValue118
  i79 := by kernel_rfl
  t80 := Tryz.underlying119
  a80 := Tryz.isAgg119
  z80 := Tryz.sizeOf119
  v80 := Tryz.zeroValue119
  i80 := by kernel_rfl
  t82 := Tryz.underlying121
  a82 := Tryz.isAgg121
  z82 := Tryz.sizeOf121
  v82 := Tryz.zeroValue121
  i82 := by kernel_rfl }

noncomputable def iS64 : TypeInfo := (Tryz.prog.info? 25).get (by kernel_rfl)
noncomputable def iE64 : TypeInfo := (Tryz.prog.info? 2).get (by kernel_rfl)
theorem iE64_k (n : Nat) (h2 : 2 ≤ n) : Lib.swapperK n iE64 6 = 5 := by
  have a : iE64.hasPointers = false := by kernel_rfl
  have b : iE64.bytes = 8 := by kernel_rfl
  have c : (n == 0) = false := by simp; omega
  have d : (n == 1) = false := by simp; omega
  simp [Lib.swapperK, a, b, c, d]
theorem iE64_k1 (n : Nat) (h2 : n ≤ 1) : Lib.swapperK n iE64 6 = n + 1 := by
  rcases Nat.eq_zero_or_pos n with h | h
  · subst h; simp [Lib.swapperK]
  · obtain rfl : n = 1 := by omega
    simp [Lib.swapperK]
/-- A closure 'func(i, k int) bool { return all[i] < all[k] }'. -/
def LessI (g : Nat) : Prop := ∀ (blk c B size : Nat) (W : World) (G : Nat → Int), W.cell? ⟨B, 0, none⟩ = some (.slice (some ⟨blk, 0, none⟩) size c) → (∀ t, t < size → W.cell? ⟨blk, t, none⟩ = some (.int .i64 (G t))) →
    ∀ i j : Nat, i < size → j < size → Calls Tryz.prog g #[.int .i64 i, .int .i64 j, .pointer (some ⟨B, 0, none⟩)] W fun e w' => e = .returned (.bool (decide (G i < G j))) ∧ ∃ q, w' = W.drewN q
set_option maxHeartbeats 2000000 in
theorem sortInts_c (g : Nat) (eg : ∀ args w, (callFunc g args).run Tryz.prog w = .ok (.enter g args) w) (hL : LessI g) (a : Option Addr) (n c B base : Nat) (l : List Int) (w : World)
    (hO : OwnInts w base (.slice a n c) l) (hB : BoxIs w B [.slice a n c]) (hne : ∀ x, a = some x → B ≠ x.block) (hl : l.length ≤ 1000000) :
    Calls Tryz.prog 24 #[.iface 25 (.slice a n c), .func (.func g) #[] #[.pointer (some ⟨B, 0, none⟩)]] w fun e w' => e = .returned (.tuple #[]) ∧ ∃ l' : List Int, l'.Perm l ∧ Asc Go.Sort.ltInt l' ∧ OwnInts w' base (.slice a n c) l' ∧ BoxIs w' B [.slice a n c] ∧ (∀ K, K ≤ base → K ≤ w.heap.size → Below K w w') := by
  have hn : n = l.length := by
    obtain ⟨_, _, e⟩ := slice_of_own hO
    injection e
  by_cases h2 : 2 ≤ n
  · rcases hO.2 with ⟨h0, h1⟩ | ⟨g0, cap, cur, hv, hbg, hg, _⟩
    · omega
    · obtain ⟨rfl, -, rfl⟩ : a = some ⟨g0, 0, none⟩ ∧ n = l.length ∧ c = cap := by injection hv with h1 h2 h3; exact ⟨h1, h2, h3⟩
      have hgs : g0 < w.heap.size := by
        rcases Nat.lt_or_ge g0 w.heap.size with h | h
        · exact h
        · rw [Array.getElem?_eq_none h] at hg; exact absurd hg (by simp)
      subst hn
      have hne' : B ≠ g0 := hne _ rfl
      have hO' : w.ownsRow base 2 1 (.slice (some ⟨g0, 0, none⟩) l.length c) l.length (l.toArray.toList.map (Value.int .i64)) := hO
      have hH : Go.Sort.Holds (Value.int .i64) w g0 0 l.toArray := holds_own (size := 1) (by simp) hO'
      have hless : LessReads Tryz.prog g #[.pointer (some ⟨B, 0, none⟩)] (Value.int .i64) Go.Sort.ltInt g0 0 l.toArray.size w := by
        intro m os dk hs i j hi hj
        have e : sortWorld (Value.int .i64) w g0 0 m dk os = Go.Sort.putRow (Value.int .i64) (Go.Sort.grow (Go.Sort.ahead w m) os) g0 0 dk := by
          unfold sortWorld; rw [Go.Sort.putRow_grow _ (Go.Sort.ahead w m) _ g0 0 _ hgs]
        have hHg : Go.Sort.Holds (Value.int .i64) (Go.Sort.grow (Go.Sort.ahead w m) os) g0 0 l.toArray := Go.Sort.holds_grow _ _ _ g0 0 l.toArray hgs (Go.Sort.holds_ahead _ _ _ _ _ _ hH)
        refine hL g0 c B l.toArray.size _ (fun t => dk[t]!) ?_ (fun t ht => ?_) i j hi hj
        · rw [e, Go.Sort.cell?_putRow_other _ _ g0 0 dk _ (Or.inl hne'), Go.Sort.cell?_grow _ _ _ hB.1]
          have := hB.2.1 0
          simpa using this
        · rw [e]
          have := Go.Sort.cell?_putRow _ _ g0 0 l.toArray dk hHg hs t (by omega)
          rwa [Nat.zero_add] at this
      have hS := Any.sort_Slice_sorted sl6 25 2 iS64 iE64 (by kernel_rfl) (by kernel_rfl) (by kernel_rfl) (by kernel_rfl) 6 (fun _ => by kernel_rfl) (by kernel_rfl) (fun _ => by kernel_rfl) (Value.int .i64) (fun _ => rfl) Go.Sort.ltInt Go.Sort.swo_ltInt g _
        eg g0 0 c l.toArray (by simpa using h2) (by simp; omega) 69 (by rw [iE64_k _ (by simpa using h2)]; kernel_rfl) true
        (fun args W => run_callFunc_extern Tryz.func69 (by kernel_rfl) (by kernel_rfl) (by kernel_rfl) (e := Extern.ReflectliteSwapper.swap true) (by kernel_rfl) args W) _ hless hH hgs
      change Calls Tryz.prog 24 _ _ _ at hS
      rw [show l.toArray.size = l.length by simp] at hS
      refine hS.mono ?_
      rintro e w' ⟨rfl, d', q, os, hp, hso, rfl⟩
      obtain ⟨p1, p2⟩ := sorted_list (by simpa using hp) (by simpa using hso)
      have hz : d'.toList.length = l.length := p1.length_eq
      refine ⟨rfl, d'.toList, p1, p2, ?_, ⟨?_, ?_, ?_⟩, fun K h1 h2 => below_putRow (by omega) h2⟩
      · unfold OwnInts
        rw [hz]
        exact own_putRow (size := 1) hO (by simpa using hz)
      · have := (below_putRow (enc := Value.int .i64) (w := w) (g := g0) (q := q) (off := 0) (d := d') (os := os) (Nat.zero_le _) (Nat.zero_le _)).size
        exact Nat.lt_of_lt_of_le hB.1 this
      · intro j
        rw [Go.Sort.cell?_grow _ _ _ (by have := hB.1; simpa using this), Go.Sort.cell?_putRow_other _ _ g0 0 d' _ (Or.inl hne')]
        exact hB.2.1 j
      · intro j
        have := hB.2.2 j
        rw [Go.Sort.frozen?_grow _ _ _ (by have := hB.1; simpa using this), Go.Sort.frozen?_putRow]
        exact this
  · have hS := Any.sort_Slice_tiny sl6 25 2 iS64 iE64 (by kernel_rfl) (by kernel_rfl) (by kernel_rfl) (by kernel_rfl) 6 (fun _ => by kernel_rfl) a n c (by omega) (65 + n) (by
      rw [iE64_k1 n (by omega)]
      rcases Nat.eq_zero_or_pos n with h | h
      · subst h; kernel_rfl
      · obtain rfl : n = 1 := by omega
        kernel_rfl) (.func g) #[] #[.pointer (some ⟨B, 0, none⟩)] w
    change Calls Tryz.prog 24 _ _ _ at hS
    refine hS.mono ?_
    rintro e w' ⟨rfl, os, rfl⟩
    have hb : Below w.heap.size w (Go.Sort.grow w os) := below_grow
    refine ⟨rfl, l, List.Perm.refl _, ?_, own_below hO hb, hB.below hb, fun K h1 h2 => hb.mono h2⟩
    match l, hn with
    | [], _ => exact List.Pairwise.nil
    | [x], _ => exact List.pairwise_singleton _ _
    | x :: y :: r, hn => simp at hn; omega
end Go.Proofs.YtkggjejcajcppaaGreat
