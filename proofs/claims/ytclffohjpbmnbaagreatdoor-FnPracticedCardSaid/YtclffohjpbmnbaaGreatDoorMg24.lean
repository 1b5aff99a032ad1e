import Derived.Test.YtclffohjpbmnbaaGreatDoorMg23
import Derived.Test.YtclffohjpbmnbaaGreatDoorMg1
import Derived.Test.YtclffohjpbmnbaaGreatDoorMg6
import Derived.Shelf.GgSortFunc.Whole
import Derived.Shelf.GgSortFunc.Tiny
import Derived.Ground.GgsProg
/- SortI: sort.Slice at numbers that the call owns. -/
namespace Go.Proofs.YtclffohjpbmnbaaGreatDoor
open Go.ChangeShapes Go.WideShapes Go.ChangeAt Go.RowKit Go.Lib Go.Shelf

def sl6_ren : Go.Shelf.Ren := ⟨fun | 6 => 83 | 10 => 135 | 11 => 136 | 12 => 137 | 13 => 138 | 14 => 139 | 24 => 162 | 25 => 163 | 26 => 164 | 27 => 165 | 28 => 166 | 29 => 167 | 30 => 168 | 31 => 169 | 32 => 170 | 33 => 171 | 34 => 178 | 35 => 179 | 36 => 180 | 37 => 181 | 38 => 182 | 39 => 189 | n => n, fun | 20 => 20 | 26 => 105 | 35 => 134 | 0 => 0 | 37 => 136 | 3 => 3 | 41 => 140 | 44 => 143 | 49 => 151 | 51 => 114 | 4 => 4 | 54 => 155 | 53 => 154 | 58 => 159 | 5 => 5 | 9 => 9 | 60 => 166 | 64 => 170 | 66 => 177 | 67 => 178 | 17 => 17 | 32 => 131 | 33 => 132 | 82 => 195 | 12 => 12 | 75 => 188 | 76 => 189 | 77 => 190 | 78 => 191 | 79 => 192 | 80 => 193 | n => n, fun | n => n⟩
theorem sl6 : Go.Proofs.LaysGg.n6 Tryz.prog sl6_ren := {
  mixed := by kernel_rfl
  f6 := Tryz.func83.trans (congrArg some (by kernel_rfl))
  f10 := Tryz.func135.trans (congrArg some (by kernel_rfl))
  f11 := Tryz.func136.trans (congrArg some (by kernel_rfl))
  f12 := Tryz.func137.trans (congrArg some (by kernel_rfl))
  f13 := Tryz.func138.trans (congrArg some (by kernel_rfl))
  f14 := Tryz.func139.trans (congrArg some (by kernel_rfl))
  f24 := Tryz.func162.trans (congrArg some (by kernel_rfl))
  f25 := Tryz.func163.trans (congrArg some (by kernel_rfl))
  f26 := Tryz.func164.trans (congrArg some (by kernel_rfl))
  f27 := Tryz.func165.trans (congrArg some (by kernel_rfl))
  f28 := Tryz.func166.trans (congrArg some (by kernel_rfl))
  f29 := Tryz.func167.trans (congrArg some (by kernel_rfl))
  f30 := Tryz.func168.trans (congrArg some (by kernel_rfl))
  f31 := Tryz.func169.trans (congrArg some (by kernel_rfl))
  f32 := Tryz.func170.trans (congrArg some (by kernel_rfl))
  f33 := Tryz.func171.trans (congrArg some (by kernel_rfl))
  f34 := Tryz.func178.trans (congrArg some (by kernel_rfl))
  f35 := Tryz.func179.trans (congrArg some (by kernel_rfl))
  f36 := Tryz.func180.trans (congrArg some (by kernel_rfl))
  f37 := Tryz.func181.trans (congrArg some (by kernel_rfl))
  f38 := Tryz.func182.trans (congrArg some (by kernel_rfl))
  f39 := Tryz.func189.trans (congrArg some (by kernel_rfl))
  t0 := Tryz.underlying0
  a0 := Tryz.isAgg0
  z0 := Tryz.sizeOf0
  v0 := Tryz.zeroValue0
  i0 := by kernel_rfl
  t3 := Tryz.underlying3
  a3 := Tryz.isAgg3
  z3 := Tryz.sizeOf3
  v3 := Tryz.zeroValue3
  i3 := by kernel_rfl
  t4 := Tryz.underlying4
  a4 := Tryz.isAgg4
  z4 := Tryz.sizeOf4
  v4 := Tryz.zeroValue4
  i4 := by kernel_rfl
  t5 := Tryz.underlying5
  a5 := Tryz.isAgg5
  z5 := Tryz.sizeOf5
  v5 := Tryz.zeroValue5
  i5 := by kernel_rfl
  t9 := Tryz.underlying9
  a9 := Tryz.isAgg9
  z9 := Tryz.sizeOf9
  v9 := Tryz.zeroValue9
  i9 := by kernel_rfl
  t12 := Tryz.underlying12
  a12 := Tryz.isAgg12
  z12 := Tryz.sizeOf12
  v12 := Tryz.zeroValue12
  i12 := by kernel_rfl
  t17 := Tryz.underlying17
  a17 := Tryz.isAgg17
  z17 := Tryz.sizeOf17
  v17 := Tryz.zeroValue17
  i17 := by kernel_rfl
  t20 := Tryz.underlying20
  a20 := Tryz.isAgg20
  z20 := Tryz.sizeOf20
  v20 := Tryz.zeroValue20
  i20 := by kernel_rfl
  t26 := Tryz.underlying105
  a26 := Tryz.isAgg105
  z26 := Tryz.sizeOf105
  v26 := Tryz.zeroValue105
  i26 := by kernel_rfl
  t32 := Tryz.underlying131
  a32 := Tryz.isAgg131
  z32 := Tryz.sizeOf131
  v32 := Tryz.zeroValue131
  i32 := by kernel_rfl
  t33 := Tryz.underlying132
  a33 := Tryz.isAgg132
  z33 := Tryz.sizeOf132
  v33 := Tryz.zeroValue132
  i33 := by kernel_rfl
  t35 := Tryz.underlying134
  a35 := Tryz.isAgg134
  z35 := Tryz.sizeOf134
  v35 := Tryz.zeroValue134
  i35 := by kernel_rfl
  t37 := Tryz.underlying136
  a37 := Tryz.isAgg136
  z37 := Tryz.sizeOf136
  v37 := Tryz.zeroValue136
  i37 := by kernel_rfl
  t41 := Tryz.underlying140
  a41 := Tryz.isAgg140
  z41 := Tryz.sizeOf140
  v41 := Tryz.zeroValue140
  i41 := by kernel_rfl
  t44 := Tryz.underlying143
  a44 := Tryz.isAgg143
  z44 := Tryz.sizeOf143
  v44 := Tryz.zeroValue143
  i44 := by kernel_rfl
  t49 := Tryz.underlying151
  a49 := Tryz.isAgg151
  z49 := Tryz.sizeOf151
  v49 := Tryz.zeroValue151
  i49 := by kernel_rfl
  t51 := Tryz.underlying114
  a51 := Tryz.isAgg114
  z51 := Tryz.sizeOf114
  v51 := Tryz.zeroValue114
  i51 := by kernel_rfl
  t53 := Tryz.underlying154
  a53 := Tryz.isAgg154
  z53 := Tryz.sizeOf154
  v53 := Tryz.zeroValue154
  i53 := by kernel_rfl
  t54 := Tryz.underlying155
  a54 := Tryz.isAgg155
  z54 := Tryz.sizeOf155
  v54 := Tryz.zeroValue155
  i54 := by kernel_rfl
  t58 := Tryz.underlying159
  a58 := Tryz.isAgg159
  z58 := Tryz.sizeOf159
  v58 := Tryz.zeroValue159
  i58 := by kernel_rfl
  t60 := Tryz.underlying166
  a60 := Tryz.isAgg166
  z60 := Tryz.sizeOf166
  v60 := Tryz.zeroValue166
  i60 := by kernel_rfl
  t64 := Tryz.underlying170
  a64 := Tryz.isAgg170
  z64 := Tryz.sizeOf170
  v64 := Tryz.zeroValue170
  i64 := by kernel_rfl
  t66 := Tryz.underlying177
  a66 := Tryz.isAgg177
  z66 := Tryz.sizeOf177
  v66 := Tryz.zeroValue177
  i66 := by kernel_rfl
  t67 := Tryz.underlying178
  a67 := Tryz.isAgg178
  z67 := Tryz.sizeOf178
  v67 := Tryz.zeroValue178
  i67 := by kernel_rfl
  t75 := Tryz.underlying188
  a75 := Tryz.isAgg188
  z75 := Tryz.sizeOf188
  v75 := Tryz.zeroValue188
  i75 := by kernel_rfl
  t76 := Tryz.underlying189
  a76 := Tryz.isAgg189
  z76 := Tryz.sizeOf189
  v76 := Tryz.zeroValue189
  i76 := by kernel_rfl
  t77 := Tryz.underlying190
  a77 := Tryz.isAgg190
  z77 := Tryz.sizeOf190
  v77 := Tryz.zeroValue190
  i77 := by kernel_rfl
  t78 := Tryz.underlying191
  a78 := Tryz.isAgg191
  z78 := Tryz.sizeOf191
  v78 := Tryz.zeroValue191
  i78 := by kernel_rfl
  t79 := Tryz.underlying192
  a79 := Tryz.isAgg192
  z79 := Tryz.sizeOf192
  v79 := Tryz.zeroValue192
  i79 := by kernel_rfl
  t80 := Tryz.underlying193
  a80 := Tryz.isAgg193
  z80 := Tryz.sizeOf193
  v80 := Tryz.zeroValue193
  i80 := by kernel_rfl
  t82 := Tryz.underlying195
  a82 := Tryz.isAgg195
  z82 := Tryz.sizeOf195
  v82 := Tryz.zeroValue195
  i82 := by kernel_rfl }

noncomputable def iS64 : TypeInfo := (Tryz.prog.info? 24).get (by kernel_rfl)
noncomputable def iE64 : TypeInfo := (Tryz.prog.info? 2).get (by kernel_rfl)
theorem iE64_k (n : Nat) (h2 : 2 ≤ n) : Lib.swapperK n iE64 6 = 5 := by
  have a : iE64.hasPointers = false := by kernel_rfl
  have b : iE64.bytes = 8 := by kernel_rfl
  have c : (n == 0) = false := by simp; omega
  have d : (n == 1) = false := by simp; omega
  simp [Lib.swapperK, a, b, c, d]
theorem iE64_k1 (n : Nat) (h2 : n ≤ 1) : Lib.swapperK n iE64 6 = n + 1 := by
  rcases Nat.eq_zero_or_pos n with h | h
  · subst h; simp [Lib.swapperK]
  · obtain rfl : n = 1 := by omega
    simp [Lib.swapperK]
/-- A closure 'func(i, k int) bool { return all[i] < all[k] }'. -/
def LessI (g : Nat) : Prop := ∀ (blk c B size : Nat) (W : World) (G : Nat → Int), W.cell? ⟨B, 0, none⟩ = some (.slice (some ⟨blk, 0, none⟩) size c) → (∀ t, t < size → W.cell? ⟨blk, t, none⟩ = some (.int .i64 (G t))) →
    ∀ i j : Nat, i < size → j < size → Calls Tryz.prog g #[.int .i64 i, .int .i64 j, .pointer (some ⟨B, 0, none⟩)] W fun e w' => e = .returned (.bool (decide (G i < G j))) ∧ ∃ q, w' = W.drewN q
set_option maxHeartbeats 2000000 in
theorem sortInts_c (g : Nat) (eg : ∀ args w, (callFunc g args).run Tryz.prog w = .ok (.enter g args) w) (hL : LessI g) (a : Option Addr) (n c B base : Nat) (l : List Int) (w : World)
    (hO : OwnInts w base (.slice a n c) l) (hB : BoxIs w B [.slice a n c]) (hne : ∀ x, a = some x → B ≠ x.block) (hl : l.length ≤ 1000000) :
    Calls Tryz.prog 83 #[.iface 24 (.slice a n c), .func (.func g) #[] #[.pointer (some ⟨B, 0, none⟩)]] w fun e w' => e = .returned (.tuple #[]) ∧ ∃ l' : List Int, l'.Perm l ∧ Asc Go.Sort.ltInt l' ∧ OwnInts w' base (.slice a n c) l' ∧ BoxIs w' B [.slice a n c] ∧ (∀ K, K ≤ base → K ≤ w.heap.size → Below K w w') := by
  have hn : n = l.length := by
    obtain ⟨_, _, e⟩ := slice_of_own hO
    injection e
  by_cases h2 : 2 ≤ n
  · rcases hO.2 with ⟨h0, h1⟩ | ⟨g0, cap, cur, hv, hbg, hg, _⟩
    · omega
    · obtain ⟨rfl, -, rfl⟩ : a = some ⟨g0, 0, none⟩ ∧ n = l.length ∧ c = cap := by injection hv with h1 h2 h3; exact ⟨h1, h2, h3⟩
      have hgs : g0 < w.heap.size := by
        rcases Nat.lt_or_ge g0 w.heap.size with h | h
        · exact h
        · rw [Array.getElem?_eq_none h] at hg; exact absurd hg (by simp)
      subst hn
      have hne' : B ≠ g0 := hne _ rfl
      have hO' : w.ownsRow base 2 1 (.slice (some ⟨g0, 0, none⟩) l.length c) l.length (l.toArray.toList.map (Value.int .i64)) := hO
      have hH : Go.Sort.Holds (Value.int .i64) w g0 0 l.toArray := holds_own (size := 1) (by simp) hO'
      have hless : LessReads Tryz.prog g #[.pointer (some ⟨B, 0, none⟩)] (Value.int .i64) Go.Sort.ltInt g0 0 l.toArray.size w := by
        intro m os dk hs i j hi hj
        have e : sortWorld (Value.int .i64) w g0 0 m dk os = Go.Sort.putRow (Value.int .i64) (Go.Sort.grow (Go.Sort.ahead w m) os) g0 0 dk := by
          unfold sortWorld; rw [Go.Sort.putRow_grow _ (Go.Sort.ahead w m) _ g0 0 _ hgs]
        have hHg : Go.Sort.Holds (Value.int .i64) (Go.Sort.grow (Go.Sort.ahead w m) os) g0 0 l.toArray := Go.Sort.holds_grow _ _ _ g0 0 l.toArray hgs (Go.Sort.holds_ahead _ _ _ _ _ _ hH)
        refine hL g0 c B l.toArray.size _ (fun t => dk[t]!) ?_ (fun t ht => ?_) i j hi hj
        · rw [e, Go.Sort.cell?_putRow_other _ _ g0 0 dk _ (Or.inl hne'), Go.Sort.cell?_grow _ _ _ hB.1]
          have := hB.2.1 0
          simpa using this
        · rw [e]
          have := Go.Sort.cell?_putRow _ _ g0 0 l.toArray dk hHg hs t (by omega)
          rwa [Nat.zero_add] at this
      have hS := Any.sort_Slice_sorted sl6 24 2 iS64 iE64 (by kernel_rfl) (by kernel_rfl) (by kernel_rfl) (by kernel_rfl) 6 (fun _ => by kernel_rfl) (by kernel_rfl) (fun _ => by kernel_rfl) (Value.int .i64) (fun _ => rfl) Go.Sort.ltInt Go.Sort.swo_ltInt g _
        eg g0 0 c l.toArray (by simpa using h2) (by simp; omega) 157 (by rw [iE64_k _ (by simpa using h2)]; kernel_rfl) true
        (fun args W => run_callFunc_extern Tryz.func157 (by kernel_rfl) (by kernel_rfl) (by kernel_rfl) (e := Extern.ReflectliteSwapper.swap true) (by kernel_rfl) args W) _ hless hH hgs
      change Calls Tryz.prog 83 _ _ _ at hS
      rw [show l.toArray.size = l.length by simp] at hS
      refine hS.mono ?_
      rintro e w' ⟨rfl, d', q, os, hp, hso, rfl⟩
      obtain ⟨p1, p2⟩ := sorted_list (by simpa using hp) (by simpa using hso)
      have hz : d'.toList.length = l.length := p1.length_eq
      refine ⟨rfl, d'.toList, p1, p2, ?_, ⟨?_, ?_, ?_⟩, fun K h1 h2 => below_putRow (by omega) h2⟩
      · unfold OwnInts
        rw [hz]
        exact own_putRow (size := 1) hO (by simpa using hz)
      · have := (below_putRow (enc := Value.int .i64) (w := w) (g := g0) (q := q) (off := 0) (d := d') (os := os) (Nat.zero_le _) (Nat.zero_le _)).size
        exact Nat.lt_of_lt_of_le hB.1 this
      · intro j
        rw [Go.Sort.cell?_grow _ _ _ (by have := hB.1; simpa using this), Go.Sort.cell?_putRow_other _ _ g0 0 d' _ (Or.inl hne')]
        exact hB.2.1 j
      · intro j
        have := hB.2.2 j
        rw [Go.Sort.frozen?_grow _ _ _ (by have := hB.1; simpa using this), Go.Sort.frozen?_putRow]
        exact this
  · have hS := Any.sort_Slice_tiny sl6 24 2 iS64 iE64 (by kernel_rfl) (by kernel_rfl) (by kernel_rfl) (by kernel_rfl) 6 (fun _ => by kernel_rfl) a n c (by omega) (153 + n) (by
      rw [iE64_k1 n (by omega)]
      rcases Nat.eq_zero_or_pos n with h | h
      · subst h; kernel_rfl
      · obtain rfl : n = 1 := by omega
        kernel_rfl) (.func g) #[] #[.pointer (some ⟨B, 0, none⟩)] w
    change Calls Tryz.prog 83 _ _ _ at hS
    refine hS.mono ?_
    rintro e w' ⟨rfl, os, rfl⟩
    have hb : Below w.heap.size w (Go.Sort.grow w os) := below_grow
    refine ⟨rfl, l, List.Perm.refl _, ?_, own_below hO hb, hB.below hb, fun K h1 h2 => hb.mono h2⟩
    match l, hn with
    | [], _ => exact List.Pairwise.nil
    | [x], _ => exact List.pairwise_singleton _ _
    | x :: y :: r, hn => simp at hn; omega
end Go.Proofs.YtclffohjpbmnbaaGreatDoor
