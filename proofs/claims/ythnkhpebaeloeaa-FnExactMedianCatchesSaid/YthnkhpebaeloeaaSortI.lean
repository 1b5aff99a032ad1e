/- SortI: sort.Slice at numbers that the call owns. -/
import Derived.Test.YthnkhpebaeloeaaSortW
import Derived.Test.YthnkhpebaeloeaaInts
import Derived.Test.YthnkhpebaeloeaaApp
import Derived.Shelf.GgSortFunc.Whole
import Derived.Shelf.GgSortFunc.Tiny
import Derived.Ground.GgsProg
namespace Go.Proofs.Ythnkhpebaeloeaa
open Go.ChangeShapes Go.WideShapes Go.ChangeAt Go.RowKit Go.Lib Go.Shelf

def sl6_ren : Go.Shelf.Ren := ⟨fun | 6 => 52 | 10 => 106 | 11 => 107 | 12 => 108 | 13 => 109 | 14 => 110 | 24 => 138 | 25 => 139 | 26 => 140 | 27 => 141 | 28 => 142 | 29 => 143 | 30 => 144 | 31 => 145 | 32 => 146 | 33 => 147 | 34 => 155 | 35 => 156 | 36 => 157 | 37 => 158 | 38 => 159 | 39 => 163 | n => n, fun | 20 => 20 | 26 => 77 | 35 => 118 | 0 => 0 | 37 => 120 | 3 => 3 | 41 => 124 | 44 => 127 | 49 => 142 | 51 => 144 | 4 => 4 | 54 => 147 | 53 => 146 | 58 => 151 | 5 => 5 | 9 => 9 | 60 => 154 | 64 => 158 | 66 => 161 | 67 => 162 | 17 => 17 | 32 => 115 | 33 => 116 | 82 => 177 | 12 => 12 | 75 => 170 | 76 => 171 | 77 => 172 | 78 => 173 | 79 => 174 | 80 => 175 | n => n, fun | n => n⟩
theorem sl6 : Go.Proofs.LaysGg.n6 Try.prog sl6_ren := {
  mixed := by kernel_rfl
  f6 := Try.func52.trans (congrArg some (by kernel_rfl))
  f10 := Try.func106.trans (congrArg some (by kernel_rfl))
  f11 := Try.func107.trans (congrArg some (by kernel_rfl))
  f12 := Try.func108.trans (congrArg some (by kernel_rfl))
  f13 := Try.func109.trans (congrArg some (by kernel_rfl))
  f14 := Try.func110.trans (congrArg some (by kernel_rfl))
  f24 := Try.func138.trans (congrArg some (by kernel_rfl))
  f25 := Try.func139.trans (congrArg some (by kernel_rfl))
  f26 := Try.func140.trans (congrArg some (by kernel_rfl))
  f27 := Try.func141.trans (congrArg some (by kernel_rfl))
  f28 := Try.func142.trans (congrArg some (by kernel_rfl))
  f29 := Try.func143.trans (congrArg some (by kernel_rfl))
  f30 := Try.func144.trans (congrArg some (by kernel_rfl))
  f31 := Try.func145.trans (congrArg some (by kernel_rfl))
  f32 := Try.func146.trans (congrArg some (by kernel_rfl))
  f33 := Try.func147.trans (congrArg some (by kernel_rfl))
  f34 := Try.func155.trans (congrArg some (by kernel_rfl))
  f35 := Try.func156.trans (congrArg some (by kernel_rfl))
  f36 := Try.func157.trans (congrArg some (by kernel_rfl))
  f37 := Try.func158.trans (congrArg some (by kernel_rfl))
  f38 := Try.func159.trans (congrArg some (by kernel_rfl))
  f39 := Try.func163.trans (congrArg some (by kernel_rfl))
  t0 := Try.underlying0
  a0 := Try.isAgg0
  z0 := Try.sizeOf0
  v0 := Try.zeroValue0
  i0 := by kernel_rfl
  t3 := Try.underlying3
  a3 := Try.isAgg3
  z3 := Try.sizeOf3
  v3 := Try.zeroValue3
  i3 := by kernel_rfl
  t4 := Try.underlying4
  a4 := Try.isAgg4
  z4 := Try.sizeOf4
  v4 := Try.zeroValue4
  i4 := by kernel_rfl
  t5 := Try.underlying5
  a5 := Try.isAgg5
  z5 := Try.sizeOf5
  v5 := Try.zeroValue5
  i5 := by kernel_rfl
  t9 := Try.underlying9
  a9 := Try.isAgg9
  z9 := Try.sizeOf9
  v9 := Try.zeroValue9
  i9 := by kernel_rfl
  t12 := Try.underlying12
  a12 := Try.isAgg12
  z12 := Try.sizeOf12
  v12 := Try.zeroValue12
  i12 := by kernel_rfl
  t17 := Try.underlying17
  a17 := Try.isAgg17
  z17 := Try.sizeOf17
  v17 := Try.zeroValue17
  i17 := by kernel_rfl
  t20 := Try.underlying20
  a20 := Try.isAgg20
  z20 := Try.sizeOf20
  v20 := Try.zeroValue20
  i20 := by kernel_rfl
  t26 := Try.underlying77
  a26 := Try.isAgg77
  z26 := Try.sizeOf77
  v26 := Try.zeroValue77
  i26 := by kernel_rfl
  t32 := Try.underlying115
  a32 := Try.isAgg115
  z32 := Try.sizeOf115
  v32 := Try.zeroValue115
  i32 := by kernel_rfl
  t33 := Try.underlying116
  a33 := Try.isAgg116
  z33 := Try.sizeOf116
  v33 := Try.zeroValue116
  i33 := by kernel_rfl
  t35 := Try.underlying118
  a35 := Try.isAgg118
  z35 := Try.sizeOf118
  v35 := Try.zeroValue118
  i35 := by kernel_rfl
  t37 := Try.underlying120
  a37 := Try.isAgg120
  z37 := Try.sizeOf120
  v37 := Try.zeroValue120
  i37 := by kernel_rfl
  t41 := Try.underlying124
  a41 := Try.isAgg124
  z41 := Try.sizeOf124
  v41 := Try.zeroValue124
  i41 := by kernel_rfl
  t44 := Try.underlying127
  a44 := Try.isAgg127
  z44 := Try.sizeOf127
  v44 := Try.zeroValue127
  i44 := by kernel_rfl
  t49 := Try.underlying142
  a49 := Try.isAgg142
  z49 := Try.sizeOf142
  v49 := Try.zeroValue142
  i49 := by kernel_rfl
  t51 := Try.underlying144
  a51 := Try.isAgg144
  z51 := Try.sizeOf144
  v51 := Try.zeroValue144
  i51 := by kernel_rfl
  t53 := Try.underlying146
  a53 := Try.isAgg146
  z53 := Try.sizeOf146
  v53 := Try.zeroValue146
  i53 := by kernel_rfl
  t54 := Try.underlying147
  a54 := Try.isAgg147
  z54 := Try.sizeOf147
  v54 := Try.zeroValue147
  i54 := by kernel_rfl
  t58 := Try.underlying151
  a58 := Try.isAgg151
  z58 := Try.sizeOf151
  v58 := Try.zeroValue151
  i58 := by kernel_rfl
  t60 := Try.underlying154
  a60 := Try.isAgg154
  z60 := Try.sizeOf154
  v60 := Try.zeroValue154
  i60 := by kernel_rfl
  t64 := Try.underlying158
  a64 := Try.isAgg158
  z64 := Try.sizeOf158
  v64 := Try.zeroValue158
  i64 := by kernel_rfl
  t66 := Try.underlying161
  a66 := Try.isAgg161
  z66 := Try.sizeOf161
  v66 := Try.zeroValue161
  i66 := by kernel_rfl
  t67 := Try.underlying162
  a67 := Try.isAgg162
  z67 := Try.sizeOf162
  v67 := Try.zeroValue162
  i67 := by kernel_rfl
  t75 := Try.underlying170
  a75 := Try.isAgg170
  z75 := Try.sizeOf170
  v75 := Try.zeroValue170
  i75 := by kernel_rfl
  t76 := Try.underlying171
  a76 := Try.isAgg171
  z76 := Try.sizeOf171
  v76 := Try.zeroValue171
  i76 := by kernel_rfl
  t77 := Try.underlying172
  a77 := Try.isAgg172
  z77 := Try.sizeOf172
  v77 := Try.zeroValue172
  i77 := by kernel_rfl
  t78 := Try.underlying173
  a78 := Try.isAgg173
  z78 := Try.sizeOf173
  v78 := Try.zeroValue173
  i78 := by kernel_rfl
  t79 := Try.underlying174
  a79 := Try.isAgg174
  z79 := Try.sizeOf174
  v79 := Try.zeroValue174
  i79 := by kernel_rfl
  t80 := Try.underlying175
  a80 := Try.isAgg175
  z80 := Try.sizeOf175
  v80 := Try.zeroValue175
  i80 := by kernel_rfl
  t82 := Try.underlying177
  a82 := Try.isAgg177
  z82 := Try.sizeOf177
  v82 := Try.zeroValue177
  i82 := by kernel_rfl }

noncomputable def iS64 : TypeInfo := (Try.prog.info? 23).get (by kernel_rfl)
noncomputable def iE64 : TypeInfo := (Try.prog.info? 2).get (by kernel_rfl)
theorem iE64_k (n : Nat) (h2 : 2 ≤ n) : Lib.swapperK n iE64 6 = 5 := by
  have a : iE64.hasPointers = false := by kernel_rfl
  have b : iE64.bytes = 8 := by kernel_rfl
  have c : (n == 0) = false := by simp; omega
  have d : (n == 1) = false := by simp; omega
  simp [Lib.swapperK, a, b, c, d]
theorem iE64_k1 (n : Nat) (h2 : n ≤ 1) : Lib.swapperK n iE64 6 = n + 1 := by
  rcases Nat.eq_zero_or_pos n with h | h
  · subst h; simp [Lib.swapperK]
  · obtain rfl : n = 1 := by omega
    simp [Lib.swapperK]
/-- A closure 'func(i, k int) bool { return all[i] < all[k] }'. -/
def LessI (g : Nat) : Prop := ∀ (blk c B size : Nat) (W : World) (G : Nat → Int), W.cell? ⟨B, 0, none⟩ = some (.slice (some ⟨blk, 0, none⟩) size c) → (∀ t, t < size → W.cell? ⟨blk, t, none⟩ = some (.int .i64 (G t))) →
    ∀ i j : Nat, i < size → j < size → Calls Try.prog g #[.int .i64 i, .int .i64 j, .pointer (some ⟨B, 0, none⟩)] W fun e w' => e = .returned (.bool (decide (G i < G j))) ∧ ∃ q, w' = W.drewN q
set_option maxHeartbeats 2000000 in
theorem sortInts_c (g : Nat) (eg : ∀ args w, (callFunc g args).run Try.prog w = .ok (.enter g args) w) (hL : LessI g) (a : Option Addr) (n c B base : Nat) (l : List Int) (w : World)
    (hO : OwnInts w base (.slice a n c) l) (hB : BoxIs w B [.slice a n c]) (hne : ∀ x, a = some x → B ≠ x.block) (hl : l.length ≤ 1000000) :
    Calls Try.prog 52 #[.iface 23 (.slice a n c), .func (.func g) #[] #[.pointer (some ⟨B, 0, none⟩)]] w fun e w' => e = .returned (.tuple #[]) ∧ ∃ l' : List Int, l'.Perm l ∧ Asc Go.Sort.ltInt l' ∧ OwnInts w' base (.slice a n c) l' ∧ BoxIs w' B [.slice a n c] ∧ (∀ K, K ≤ base → K ≤ w.heap.size → Below K w w') := by
  have hn : n = l.length := by
    obtain ⟨_, _, e⟩ := slice_of_own hO
    injection e
  by_cases h2 : 2 ≤ n
  · rcases hO.2 with ⟨h0, h1⟩ | ⟨g0, cap, cur, hv, hbg, hg, _⟩
    · omega
    · obtain ⟨rfl, -, rfl⟩ : a = some ⟨g0, 0, none⟩ ∧ n = l.length ∧ c = cap := by injection hv with h1 h2 h3; exact ⟨h1, h2, h3⟩
      have hgs : g0 < w.heap.size := by
        rcases Nat.lt_or_ge g0 w.heap.size with h | h
        · exact h
        · rw [Array.getElem?_eq_none h] at hg; exact absurd hg (by simp)
      subst hn
      have hne' : B ≠ g0 := hne _ rfl
      have hO' : w.ownsRow base 2 1 (.slice (some ⟨g0, 0, none⟩) l.length c) l.length (l.toArray.toList.map (Value.int .i64)) := hO
      have hH : Go.Sort.Holds (Value.int .i64) w g0 0 l.toArray := holds_own (size := 1) (by simp) hO'
      have hless : LessReads Try.prog g #[.pointer (some ⟨B, 0, none⟩)] (Value.int .i64) Go.Sort.ltInt g0 0 l.toArray.size w := by
        intro m os dk hs i j hi hj
        have e : sortWorld (Value.int .i64) w g0 0 m dk os = Go.Sort.putRow (Value.int .i64) (Go.Sort.grow (Go.Sort.ahead w m) os) g0 0 dk := by
          unfold sortWorld; rw [Go.Sort.putRow_grow _ (Go.Sort.ahead w m) _ g0 0 _ hgs]
        have hHg : Go.Sort.Holds (Value.int .i64) (Go.Sort.grow (Go.Sort.ahead w m) os) g0 0 l.toArray := Go.Sort.holds_grow _ _ _ g0 0 l.toArray hgs (Go.Sort.holds_ahead _ _ _ _ _ _ hH)
        refine hL g0 c B l.toArray.size _ (fun t => dk[t]!) ?_ (fun t ht => ?_) i j hi hj
        · rw [e, Go.Sort.cell?_putRow_other _ _ g0 0 dk _ (Or.inl hne'), Go.Sort.cell?_grow _ _ _ hB.1]
          have := hB.2.1 0
          simpa using this
        · rw [e]
          have := Go.Sort.cell?_putRow _ _ g0 0 l.toArray dk hHg hs t (by omega)
          rwa [Nat.zero_add] at this
      have hS := Any.sort_Slice_sorted sl6 23 2 iS64 iE64 (by kernel_rfl) (by kernel_rfl) (by kernel_rfl) (by kernel_rfl) 6 (fun _ => by kernel_rfl) (by kernel_rfl) (fun _ => by kernel_rfl) (Value.int .i64) (fun _ => rfl) Go.Sort.ltInt Go.Sort.swo_ltInt g _
        eg g0 0 c l.toArray (by simpa using h2) (by simp; omega) 133 (by rw [iE64_k _ (by simpa using h2)]; kernel_rfl) true
        (fun args W => run_callFunc_extern Try.func133 (by kernel_rfl) (by kernel_rfl) (by kernel_rfl) (e := Extern.ReflectliteSwapper.swap true) (by kernel_rfl) args W) _ hless hH hgs
      change Calls Try.prog 52 _ _ _ at hS
      rw [show l.toArray.size = l.length by simp] at hS
      refine hS.mono ?_
      rintro e w' ⟨rfl, d', q, os, hp, hso, rfl⟩
      obtain ⟨p1, p2⟩ := sorted_list (by simpa using hp) (by simpa using hso)
      have hz : d'.toList.length = l.length := p1.length_eq
      refine ⟨rfl, d'.toList, p1, p2, ?_, ⟨?_, ?_, ?_⟩, fun K h1 h2 => below_putRow (by omega) h2⟩
      · unfold OwnInts
        rw [hz]
        exact own_putRow (size := 1) hO (by simpa using hz)
      · have := (below_putRow (enc := Value.int .i64) (w := w) (g := g0) (q := q) (off := 0) (d := d') (os := os) (Nat.zero_le _) (Nat.zero_le _)).size
        exact Nat.lt_of_lt_of_le hB.1 this
      · intro j
        rw [Go.Sort.cell?_grow _ _ _ (by have := hB.1; simpa using this), Go.Sort.cell?_putRow_other _ _ g0 0 d' _ (Or.inl hne')]
        exact hB.2.1 j
      · intro j
        have := hB.2.2 j
        rw [Go.Sort.frozen?_grow _ _ _ (by have := hB.1; simpa using this), Go.Sort.frozen?_putRow]
        exact this
  · have hS := Any.sort_Slice_tiny sl6 23 2 iS64 iE64 (by kernel_rfl) (by kernel_rfl) (by kernel_rfl) (by kernel_rfl) 6 (fun _ => by kernel_rfl) a n c (by omega) (129 + n) (by
      rw [iE64_k1 n (by omega)]
      rcases Nat.eq_zero_or_pos n with h | h
      · subst h; kernel_rfl
      · obtain rfl : n = 1 := by omega
        kernel_rfl) (.func g) #[] #[.pointer (some ⟨B, 0, none⟩)] w
    change Calls Try.prog 52 _ _ _ at hS
    refine hS.mono ?_
    rintro e w' ⟨rfl, os, rfl⟩
    have hb : Below w.heap.size w (Go.Sort.grow w os) := below_grow
    refine ⟨rfl, l, List.Perm.refl _, ?_, own_below hO hb, hB.below hb, fun K h1 h2 => hb.mono h2⟩
    match l, hn with
    | [], _ => exact List.Pairwise.nil
    | [x], _ => exact List.pairwise_singleton _ _
    | x :: y :: r, hn => simp at hn; omega
end Go.Proofs.Ythnkhpebaeloeaa
