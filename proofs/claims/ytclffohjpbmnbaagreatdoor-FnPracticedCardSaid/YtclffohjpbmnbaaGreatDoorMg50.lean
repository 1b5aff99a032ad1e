import Derived.Test.YtclffohjpbmnbaaGreatDoorMg23
import Derived.Test.YtclffohjpbmnbaaGreatDoorMg13
import Derived.Test.YtclffohjpbmnbaaGreatDoorMg10
import Derived.Shelf.GgSortFunc.Whole
import Derived.Shelf.GgSortFunc.Tiny
import Derived.Ground.GgsProg
/- SortP: sort.Slice at a row of lists that the call owns, by how the lists compare. -/
namespace Go.Proofs.YtclffohjpbmnbaaGreatDoor
open Go.ChangeShapes Go.WideShapes Go.ChangeAt Go.RowKit Go.Lib Go.Shelf

def sl6p_ren : Go.Shelf.Ren := ⟨fun | 6 => 83 | 10 => 135 | 11 => 136 | 12 => 137 | 13 => 138 | 14 => 139 | 24 => 162 | 25 => 163 | 26 => 164 | 27 => 165 | 28 => 166 | 29 => 167 | 30 => 168 | 31 => 169 | 32 => 170 | 33 => 171 | 34 => 178 | 35 => 179 | 36 => 180 | 37 => 181 | 38 => 182 | 39 => 189 | n => n, fun | 20 => 20 | 26 => 105 | 35 => 134 | 0 => 0 | 37 => 136 | 3 => 3 | 41 => 140 | 44 => 143 | 49 => 151 | 51 => 114 | 4 => 4 | 54 => 155 | 53 => 154 | 58 => 159 | 5 => 5 | 9 => 9 | 60 => 166 | 64 => 170 | 66 => 177 | 67 => 178 | 17 => 17 | 32 => 131 | 33 => 132 | 82 => 195 | 12 => 12 | 75 => 188 | 76 => 189 | 77 => 190 | 78 => 191 | 79 => 192 | 80 => 193 | n => n, fun | n => n⟩
theorem sl6p : Go.Proofs.LaysGg.n6 Tryz.prog sl6p_ren := {
  mixed := by kernel_rfl
  f6 := Tryz.func83.trans (congrArg some (by kernel_rfl))
  f10 := Tryz.func135.trans (congrArg some (by kernel_rfl))
  f11 := Tryz.func136.trans (congrArg some (by kernel_rfl))
  f12 := Tryz.func137.trans (congrArg some (by kernel_rfl))
  f13 := Tryz.func138.trans (congrArg some (by kernel_rfl))
  f14 := Tryz.func139.trans (congrArg some (by kernel_rfl))
  f24 := Tryz.func162.trans (congrArg some (by kernel_rfl))
  f25 := Tryz.func163.trans (congrArg some (by kernel_rfl))
  f26 := Tryz.func164.trans (congrArg some (by kernel_rfl))
  f27 := Tryz.func165.trans (congrArg some (by kernel_rfl))
  f28 := Tryz.func166.trans (congrArg some (by kernel_rfl))
  f29 := Tryz.func167.trans (congrArg some (by kernel_rfl))
  f30 := Tryz.func168.trans (congrArg some (by kernel_rfl))
  f31 := Tryz.func169.trans (congrArg some (by kernel_rfl))
  f32 := Tryz.func170.trans (congrArg some (by kernel_rfl))
  f33 := Tryz.func171.trans (congrArg some (by kernel_rfl))
  f34 := Tryz.func178.trans (congrArg some (by kernel_rfl))
  f35 := Tryz.func179.trans (congrArg some (by kernel_rfl))
  f36 := Tryz.func180.trans (congrArg some (by kernel_rfl))
  f37 := Tryz.func181.trans (congrArg some (by kernel_rfl))
  f38 := Tryz.func182.trans (congrArg some (by kernel_rfl))
  f39 := Tryz.func189.trans (congrArg some (by kernel_rfl))
  t0 := Tryz.underlying0
  a0 := Tryz.isAgg0
  z0 := Tryz.sizeOf0
  v0 := Tryz.zeroValue0
  i0 := by kernel_rfl
  t3 := Tryz.underlying3
  a3 := Tryz.isAgg3
  z3 := Tryz.sizeOf3
  v3 := Tryz.zeroValue3
  i3 := by kernel_rfl
  t4 := Tryz.underlying4
  a4 := Tryz.isAgg4
  z4 := Tryz.sizeOf4
  v4 := Tryz.zeroValue4
  i4 := by kernel_rfl
  t5 := Tryz.underlying5
  a5 := Tryz.isAgg5
  z5 := Tryz.sizeOf5
  v5 := Tryz.zeroValue5
  i5 := by kernel_rfl
  t9 := Tryz.underlying9
  a9 := Tryz.isAgg9
  z9 := Tryz.sizeOf9
  v9 := Tryz.zeroValue9
  i9 := by kernel_rfl
  t12 := Tryz.underlying12
  a12 := Tryz.isAgg12
  z12 := Tryz.sizeOf12
  v12 := Tryz.zeroValue12
  i12 := by kernel_rfl
  t17 := Tryz.underlying17
  a17 := Tryz.isAgg17
  z17 := Tryz.sizeOf17
  v17 := Tryz.zeroValue17
  i17 := by kernel_rfl
  t20 := Tryz.underlying20
  a20 := Tryz.isAgg20
  z20 := Tryz.sizeOf20
  v20 := Tryz.zeroValue20
  i20 := by kernel_rfl
  t26 := Tryz.underlying105
  a26 := Tryz.isAgg105
  z26 := Tryz.sizeOf105
  v26 := Tryz.zeroValue105
  i26 := by kernel_rfl
  t32 := Tryz.underlying131
  a32 := Tryz.isAgg131
  z32 := Tryz.sizeOf131
  v32 := Tryz.zeroValue131
  i32 := by kernel_rfl
  t33 := Tryz.underlying132
  a33 := Tryz.isAgg132
  z33 := Tryz.sizeOf132
  v33 := Tryz.zeroValue132
  i33 := by kernel_rfl
  t35 := Tryz.underlying134
  a35 := Tryz.isAgg134
  z35 := Tryz.sizeOf134
  v35 := Tryz.zeroValue134
  i35 := by kernel_rfl
  t37 := Tryz.underlying136
  a37 := Tryz.isAgg136
  z37 := Tryz.sizeOf136
  v37 := Tryz.zeroValue136
  i37 := by kernel_rfl
  t41 := Tryz.underlying140
  a41 := Tryz.isAgg140
  z41 := Tryz.sizeOf140
  v41 := Tryz.zeroValue140
  i41 := by kernel_rfl
  t44 := Tryz.underlying143
  a44 := Tryz.isAgg143
  z44 := Tryz.sizeOf143
  v44 := Tryz.zeroValue143
  i44 := by kernel_rfl
  t49 := Tryz.underlying151
  a49 := Tryz.isAgg151
  z49 := Tryz.sizeOf151
  v49 := Tryz.zeroValue151
  i49 := by kernel_rfl
  t51 := Tryz.underlying114
  a51 := Tryz.isAgg114
  z51 := Tryz.sizeOf114
  v51 := Tryz.zeroValue114
  i51 := by kernel_rfl
  t53 := Tryz.underlying154
  a53 := Tryz.isAgg154
  z53 := Tryz.sizeOf154
  v53 := Tryz.zeroValue154
  i53 := by kernel_rfl
  t54 := Tryz.underlying155
  a54 := Tryz.isAgg155
  z54 := Tryz.sizeOf155
  v54 := Tryz.zeroValue155
  i54 := by kernel_rfl
  t58 := Tryz.underlying159
  a58 := Tryz.isAgg159
  z58 := Tryz.sizeOf159
  v58 := Tryz.zeroValue159
  i58 := by kernel_rfl
  t60 := Tryz.underlying166
  a60 := Tryz.isAgg166
  z60 := Tryz.sizeOf166
  v60 := Tryz.zeroValue166
  i60 := by kernel_rfl
  t64 := Tryz.underlying170
  a64 := Tryz.isAgg170
  z64 := Tryz.sizeOf170
  v64 := Tryz.zeroValue170
  i64 := by kernel_rfl
  t66 := Tryz.underlying177
  a66 := Tryz.isAgg177
  z66 := Tryz.sizeOf177
  v66 := Tryz.zeroValue177
  i66 := by kernel_rfl
  t67 := Tryz.underlying178
  a67 := Tryz.isAgg178
  z67 := Tryz.sizeOf178
  v67 := Tryz.zeroValue178
  i67 := by kernel_rfl
  t75 := Tryz.underlying188
  a75 := Tryz.isAgg188
  z75 := Tryz.sizeOf188
  v75 := Tryz.zeroValue188
  i75 := by kernel_rfl
  t76 := Tryz.underlying189
  a76 := Tryz.isAgg189
  z76 := Tryz.sizeOf189
  v76 := Tryz.zeroValue189
  i76 := by kernel_rfl
  t77 := Tryz.underlying190
  a77 := Tryz.isAgg190
  z77 := Tryz.sizeOf190
  v77 := Tryz.zeroValue190
  i77 := by kernel_rfl
  t78 := Tryz.underlying191
  a78 := Tryz.isAgg191
  z78 := Tryz.sizeOf191
  v78 := Tryz.zeroValue191
  i78 := by kernel_rfl
  t79 := Tryz.underlying192
  a79 := Tryz.isAgg192
  z79 := Tryz.sizeOf192
  v79 := Tryz.zeroValue192
  i79 := by kernel_rfl
  t80 := Tryz.underlying193
  a80 := Tryz.isAgg193
  z80 := Tryz.sizeOf193
  v80 := Tryz.zeroValue193
  i80 := by kernel_rfl
  t82 := Tryz.underlying195
  a82 := Tryz.isAgg195
  z82 := Tryz.sizeOf195
  v82 := Tryz.zeroValue195
  i82 := by kernel_rfl }
/-- A slice, told by its parts. -/
def slV (v : Option Addr × Nat × Nat) : Value := .slice v.1 v.2.1 v.2.2
instance : Inhabited (Option Addr × Nat × Nat) := ⟨(none, 0, 0)⟩
def ltX (L : List (List Int)) (i j : Nat) : Bool := ltP (nth L i) (nth L j)
theorem swo_ltX (L : List (List Int)) : Go.Sort.SWO (ltX L) where
  irrefl _ := swo_ltP.irrefl _
  trans _ _ _ h1 h2 := swo_ltP.trans _ _ _ h1 h2
  ntrans _ _ _ h1 h2 := swo_ltP.ntrans _ _ _ h1 h2
/-- A closure 'func(i, k int) bool { return ComparePatterns(out[i], out[k]) < 0 }'. -/
def LessP (g : Nat) : Prop := ∀ (blk c B size : Nat) (W : World) (V : Nat → Option Addr × Nat × Nat) (M : Nat → List Int), W.cell? ⟨B, 0, none⟩ = some (.slice (some ⟨blk, 0, none⟩) size c) → (∀ t, t < size → W.cell? ⟨blk, t, none⟩ = some (slV (V t)) ∧ IntsAt W (slV (V t)) (M t)) →
    ∀ i j : Nat, i < size → j < size → Calls Tryz.prog g #[.int .i64 i, .int .i64 j, .pointer (some ⟨B, 0, none⟩)] W fun e w' => e = .returned (.bool (ltP (M i) (M j))) ∧ ∃ q, w' = W.drewN q
noncomputable def pSlS : TypeInfo := (Tryz.prog.info? 45).get (by kernel_rfl)
noncomputable def pSlE : TypeInfo := (Tryz.prog.info? 24).get (by kernel_rfl)
theorem pSlk (n : Nat) (h2 : 2 ≤ n) : Lib.swapperK n pSlE 23 = 9 := by
  have a : pSlE.hasPointers = true := by kernel_rfl
  have b : (pSlE.bytes == 8) = false := by kernel_rfl
  have c : (n == 0) = false := by simp; omega
  have d : (n == 1) = false := by simp; omega
  simp [Lib.swapperK, a, b, c, d]
theorem pSlo (n : Nat) (h2 : n ≤ 1) : Lib.swapperK n pSlE 23 = n + 1 := by
  rcases Nat.eq_zero_or_pos n with h | h
  · subst h; simp [Lib.swapperK]
  · obtain rfl : n = 1 := by omega
    simp [Lib.swapperK]
set_option maxHeartbeats 2000000 in
theorem sortLists_c (g : Nat) (eg : ∀ args w, (callFunc g args).run Tryz.prog w = .ok (.enter g args) w) (hL : LessP g) (a : Option Addr) (n c B base : Nat) (vs : List (Option Addr × Nat × Nat)) (L : List (List Int)) (w : World)
    (hO : w.ownsRow base 24 1 (.slice a n c) n (vs.map slV)) (hn : n = vs.length) (hnL : n = L.length) (hP : ∀ i, i < n → IntsAt w (slV (nth vs i)) (nth L i)) (hfar : ∀ i, i < n → ∀ x, (nth vs i).1 = some x → ∀ y, a = some y → x.block ≠ y.block)
    (hB : BoxIs w B [.slice a n c]) (hne : ∀ x, a = some x → B ≠ x.block) (hl : n ≤ 1000000) :
    Calls Tryz.prog 83 #[.iface 45 (.slice a n c), .func (.func g) #[] #[.pointer (some ⟨B, 0, none⟩)]] w fun e w' => e = .returned (.tuple #[]) ∧ ∃ l' : List Nat, l'.Perm (List.range n) ∧ Asc (ltX L) l' ∧ w'.ownsRow base 24 1 (.slice a n c) n (l'.map fun i => slV (nth vs i)) ∧ BoxIs w' B [.slice a n c] ∧ (∀ C, C ≤ base → C ≤ w.heap.size → Below C w w') ∧ (∀ k, k < w.heap.size → (∀ x, a = some x → k ≠ x.block) → w'.heap[k]? = w.heap[k]?) := by
  have hvs : vs.map slV = (List.range n).map fun i => slV (nth vs i) := by
    apply List.ext_getElem?
    intro i
    by_cases hi : i < vs.length
    · rw [List.getElem?_map, nth_get? vs i hi, List.getElem?_map, List.getElem?_range (by omega)]; rfl
    · rw [List.getElem?_eq_none (by simp; omega), List.getElem?_eq_none (by simp; omega)]
  by_cases h2 : 2 ≤ n
  · rcases hO.2 with ⟨h0, h1'⟩ | ⟨g0, cap, cur, hv, hbg, hg, _⟩
    · omega
    · obtain ⟨rfl, rfl⟩ : a = some ⟨g0, 0, none⟩ ∧ c = cap := by injection hv with h1 h2 h3; exact ⟨h1, h3⟩
      have hgs : g0 < w.heap.size := by
        rcases Nat.lt_or_ge g0 w.heap.size with h | h
        · exact h
        · rw [Array.getElem?_eq_none h] at hg; exact absurd hg (by simp)
      have hne' : B ≠ g0 := hne _ rfl
      have hsz : (List.range n).toArray.size = n := by simp
      have hO' : w.ownsRow base 24 1 (.slice (some ⟨g0, 0, none⟩) n c) n ((List.range n).toArray.toList.map fun i => slV (nth vs i)) := by rw [hvs] at hO; simpa using hO
      have hH : Go.Sort.Holds (fun i => slV (nth vs i)) w g0 0 (List.range n).toArray := holds_own (size := 1) (by simp) hO'
      have hless : LessReads Tryz.prog g #[.pointer (some ⟨B, 0, none⟩)] (fun i => slV (nth vs i)) (ltX L) g0 0 (List.range n).toArray.size w := by
        intro m os dk hs i j hi hj
        have e : sortWorld (fun i => slV (nth vs i)) w g0 0 m dk os = Go.Sort.putRow (fun i => slV (nth vs i)) (Go.Sort.grow (Go.Sort.ahead w m) os) g0 0 dk := by
          unfold sortWorld; rw [Go.Sort.putRow_grow _ (Go.Sort.ahead w m) _ g0 0 _ hgs]
        have hHg : Go.Sort.Holds (fun i => slV (nth vs i)) (Go.Sort.grow (Go.Sort.ahead w m) os) g0 0 (List.range n).toArray := Go.Sort.holds_grow _ _ _ g0 0 _ hgs (Go.Sort.holds_ahead _ _ _ _ _ _ hH)
        have hWs : w.heap.size ≤ (sortWorld (fun i => slV (nth vs i)) w g0 0 m dk os).heap.size := by
          rw [e]
          show w.heap.size ≤ ((w.heap ++ os).modify g0 _).size
          simp
        have hcell : ∀ (b o : Nat), b < w.heap.size → b ≠ g0 → (sortWorld (fun i => slV (nth vs i)) w g0 0 m dk os).cell? ⟨b, o, none⟩ = w.cell? ⟨b, o, none⟩ := by
          intro b o hb hbg
          rw [e, Go.Sort.cell?_putRow_other _ _ g0 0 dk _ (Or.inl hbg), Go.Sort.cell?_grow _ _ _ hb]
          rfl
        refine hL g0 c B n _ (fun t => nth vs dk[t]!) (fun t => nth L dk[t]!) ?_ (fun t ht => ⟨?_, ?_⟩) i j (by omega) (by omega)
        · rw [hcell B 0 hB.1 hne']
          have := hB.2.1 0
          simpa using this
        · rw [e]
          have := Go.Sort.cell?_putRow _ _ g0 0 (List.range n).toArray dk hHg hs t (by omega)
          rwa [Nat.zero_add] at this
        · by_cases hd : dk[t]! < n
          · obtain ⟨a', n', c', he, h3, h4, h5, hc⟩ := hP _ hd
            refine ⟨a', n', c', he, h3, h4, h5, fun z hz => ?_⟩
            obtain ⟨b, o, hab, hb, hv⟩ := hc z hz
            have he1 : (nth vs dk[t]!).1 = a' := by unfold slV at he; injection he
            exact ⟨b, o, hab, Nat.lt_of_lt_of_le hb hWs, by rw [hcell b _ hb (hfar _ hd _ (he1.trans hab) _ rfl)]; exact hv⟩
          · have hge : vs.length ≤ dk[t]! := by omega
            have hge2 : L.length ≤ dk[t]! := by omega
            have e1 : nth vs dk[t]! = (none, 0, 0) := by unfold nth; rw [List.getD_eq_getElem?_getD, List.getElem?_eq_none hge]; rfl
            have e2 : nth L dk[t]! = [] := by unfold nth; rw [List.getD_eq_getElem?_getD, List.getElem?_eq_none hge2]; rfl
            rw [e1, e2]
            exact ⟨none, 0, 0, rfl, rfl, Nat.le_refl _, by decide, fun z hz => absurd hz (Nat.not_lt_zero _)⟩
      have hS := Any.sort_Slice_sorted sl6p 45 24 pSlS pSlE (by kernel_rfl) (by kernel_rfl) (by kernel_rfl) (by kernel_rfl) 23 (fun _ => by kernel_rfl) (by kernel_rfl) (fun _ => by kernel_rfl) (fun i => slV (nth vs i)) (fun _ => rfl) (ltX L) (swo_ltX L) g _
        eg g0 0 c (List.range n).toArray (by simpa using h2) (by simp; omega) 161 (by rw [pSlk _ (by simpa using h2)]; kernel_rfl) false
        (fun args W => run_callFunc_extern Tryz.func161 (by kernel_rfl) (by kernel_rfl) (by kernel_rfl) (e := Extern.ReflectliteSwapper.swap false) (by kernel_rfl) args W) _ hless hH hgs
      change Calls Tryz.prog 83 _ _ _ at hS
      rw [hsz] at hS
      refine hS.mono ?_
      rintro e w' ⟨rfl, d', q, os, hp, hso, rfl⟩
      obtain ⟨p1, p2⟩ := sorted_list (l := List.range n) (d' := d') (by rw [hsz]; exact hp) (by rw [hsz]; exact hso)
      have hz : d'.toList.length = n := by rw [p1.length_eq]; simp
      have hz' : d'.size = n := by simpa using hz
      have hszz := (below_putRow (enc := (fun i => slV (nth vs i))) (w := w) (g := g0) (q := q) (off := 0) (d := d') (os := os) (Nat.zero_le _) (Nat.zero_le _)).size
      refine ⟨rfl, d'.toList, p1, p2, ?_, ⟨?_, ?_, ?_⟩, fun K h1 h2 => below_putRow (by omega) h2, fun k hk' hne2 => ?_⟩
      · exact own_putRow (size := 1) hO (by simpa using hz')
      · exact Nat.lt_of_lt_of_le hB.1 hszz
      · intro j
        rw [Go.Sort.cell?_grow _ _ _ (by have := hB.1; simpa using this), Go.Sort.cell?_putRow_other _ _ g0 0 d' _ (Or.inl hne')]
        exact hB.2.1 j
      · intro j
        have := hB.2.2 j
        rw [Go.Sort.frozen?_grow _ _ _ (by have := hB.1; simpa using this), Go.Sort.frozen?_putRow]
        exact this
      · show ((w.heap.modify g0 _) ++ os)[k]? = _
        rw [Array.getElem?_append_left (by simpa using hk'), Array.getElem?_modify, if_neg (fun h => hne2 _ rfl h.symm)]
  · have hS := Any.sort_Slice_tiny sl6p 45 24 pSlS pSlE (by kernel_rfl) (by kernel_rfl) (by kernel_rfl) (by kernel_rfl) 23 (fun _ => by kernel_rfl) a n c (by omega) (153 + n) (by
      rw [pSlo n (by omega)]
      rcases Nat.eq_zero_or_pos n with h | h
      · subst h; kernel_rfl
      · obtain rfl : n = 1 := by omega
        kernel_rfl) (.func g) #[] #[.pointer (some ⟨B, 0, none⟩)] w
    change Calls Tryz.prog 83 _ _ _ at hS
    refine hS.mono ?_
    rintro e w' ⟨rfl, os, rfl⟩
    have hb : Below w.heap.size w (Go.Sort.grow w os) := below_grow
    refine ⟨rfl, List.range n, List.Perm.refl _, ?_, by rw [← hvs]; exact own_below hO hb, hB.below hb, fun K h1 h2 => hb.mono h2, fun k hk' _ => hb.block k hk'⟩
    have hn1 : n = 0 ∨ n = 1 := by omega
    rcases hn1 with h | h
    · rw [h]; exact List.Pairwise.nil
    · rw [h]; exact List.pairwise_singleton _ _
end Go.Proofs.YtclffohjpbmnbaaGreatDoor
