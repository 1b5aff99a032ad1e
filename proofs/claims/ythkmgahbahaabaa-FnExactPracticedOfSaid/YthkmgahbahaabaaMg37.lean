import Derived.Test.YthkmgahbahaabaaMg36
import Derived.Test.YthkmgahbahaabaaMg34
import Derived.Test.YthkmgahbahaabaaMg16
import Derived.Shelf.GgSortFunc.Whole
import Derived.Shelf.GgSortFunc.Tiny
import Derived.Ground.GgsProg
/- SortP: sort.Slice at a row of lists that the call owns, by how the lists compare. -/
namespace Go.Proofs.Ythkmgahbahaabaa
open Go.ChangeShapes Go.WideShapes Go.ChangeAt Go.RowKit Go.Lib Go.Shelf

def sl6p_ren : Go.Shelf.Ren := ⟨fun | 6 => 23 | 10 => 40 | 11 => 41 | 12 => 42 | 13 => 43 | 14 => 44 | 24 => 61 | 25 => 62 | 26 => 63 | 27 => 64 | 28 => 65 | 29 => 66 | 30 => 67 | 31 => 68 | 32 => 69 | 33 => 70 | 34 => 76 | 35 => 77 | 36 => 78 | 37 => 79 | 38 => 80 | 39 => 84 | n => n, fun | 20 => 20 | 26 => 47 | 35 => 60 | 0 => 0 | 37 => 62 | 3 => 3 | 41 => 66 | 44 => 69 | 49 => 79 | 51 => 81 | 4 => 4 | 54 => 84 | 53 => 83 | 58 => 88 | 5 => 5 | 9 => 9 | 60 => 91 | 64 => 95 | 66 => 97 | 67 => 98 | 17 => 17 | 32 => 57 | 33 => 58 | 82 => 113 | 12 => 12 | 75 => 106 | 76 => 107 | 77 => 108 | 78 => 109 | 79 => 110 | 80 => 111 | n => n, fun | n => n⟩
theorem sl6p : Go.Proofs.LaysGg.n6 Try.prog sl6p_ren := {
  mixed := by kernel_rfl
  f6 := Try.func23.trans (congrArg some (by kernel_rfl))
  f10 := Try.func40.trans (congrArg some (by kernel_rfl))
  f11 := Try.func41.trans (congrArg some (by kernel_rfl))
  f12 := Try.func42.trans (congrArg some (by kernel_rfl))
  f13 := Try.func43.trans (congrArg some (by kernel_rfl))
  f14 := Try.func44.trans (congrArg some (by kernel_rfl))
  f24 := Try.func61.trans (congrArg some (by kernel_rfl))
  f25 := Try.func62.trans (congrArg some (by kernel_rfl))
  f26 := Try.func63.trans (congrArg some (by kernel_rfl))
  f27 := Try.func64.trans (congrArg some (by kernel_rfl))
  f28 := Try.func65.trans (congrArg some (by kernel_rfl))
  f29 := Try.func66.trans (congrArg some (by kernel_rfl))
  f30 := Try.func67.trans (congrArg some (by kernel_rfl))
  f31 := Try.func68.trans (congrArg some (by kernel_rfl))
  f32 := Try.func69.trans (congrArg some (by kernel_rfl))
  f33 := Try.func70.trans (congrArg some (by kernel_rfl))
  f34 := Try.func76.trans (congrArg some (by kernel_rfl))
  f35 := Try.func77.trans (congrArg some (by kernel_rfl))
  f36 := Try.func78.trans (congrArg some (by kernel_rfl))
  f37 := Try.func79.trans (congrArg some (by kernel_rfl))
  f38 := Try.func80.trans (congrArg some (by kernel_rfl))
  f39 := Try.func84.trans (congrArg some (by kernel_rfl))
  t0 := Try.underlying0
  a0 := Try.isAgg0
  z0 := Try.sizeOf0
  v0 := Try.zeroValue0
  i0 := by kernel_rfl
  t3 := Try.underlying3
  a3 := Try.isAgg3
  z3 := Try.sizeOf3
  v3 := Try.zeroValue3
  i3 := by kernel_rfl
  t4 := Try.underlying4
  a4 := Try.isAgg4
  z4 := Try.sizeOf4
  v4 := Try.zeroValue4
  i4 := by kernel_rfl
  t5 := Try.underlying5
  a5 := Try.isAgg5
  z5 := Try.sizeOf5
  v5 := Try.zeroValue5
  i5 := by kernel_rfl
  t9 := Try.underlying9
  a9 := Try.isAgg9
  z9 := Try.sizeOf9
  v9 := Try.zeroValue9
  i9 := by kernel_rfl
  t12 := Try.underlying12
  a12 := Try.isAgg12
  z12 := Try.sizeOf12
  v12 := Try.zeroValue12
  i12 := by kernel_rfl
  t17 := Try.underlying17
  a17 := Try.isAgg17
  z17 := Try.sizeOf17
  v17 := Try.zeroValue17
  i17 := by kernel_rfl
  t20 := Try.underlying20
  a20 := Try.isAgg20
  z20 := Try.sizeOf20
  v20 := Try.zeroValue20
  i20 := by kernel_rfl
  t26 := Try.underlying47
  a26 := Try.isAgg47
  z26 := Try.sizeOf47
  v26 := Try.zeroValue47
  i26 := by kernel_rfl
  t32 := Try.underlying57
  a32 := Try.isAgg57
  z32 := Try.sizeOf57
  v32 := Try.zeroValue57
  i32 := by kernel_rfl
  t33 := Try.underlying58
  a33 := Try.isAgg58
  z33 := Try.sizeOf58
  v33 := Try.zeroValue58
  i33 := by kernel_rfl
  t35 := Try.underlying60
  a35 := Try.isAgg60
  z35 := Try.sizeOf60
  v35 := Try.zeroValue60
  i35 := by kernel_rfl
  t37 := Try.underlying62
  a37 := Try.isAgg62
  z37 := Try.sizeOf62
  v37 := Try.zeroValue62
  i37 := by kernel_rfl
  t41 := Try.underlying66
  a41 := Try.isAgg66
  z41 := Try.sizeOf66
  v41 := Try.zeroValue66
  i41 := by kernel_rfl
  t44 := Try.underlying69
  a44 := Try.isAgg69
  z44 := Try.sizeOf69
  v44 := Try.zeroValue69
  i44 := by kernel_rfl
  t49 := Try.underlying79
  a49 := Try.isAgg79
  z49 := Try.sizeOf79
  v49 := Try.zeroValue79
  i49 := by kernel_rfl
  t51 := Try.underlying81
  a51 := Try.isAgg81
  z51 := Try.sizeOf81
  v51 := Try.zeroValue81
  i51 := by kernel_rfl
  t53 := Try.underlying83
  a53 := Try.isAgg83
  z53 := Try.sizeOf83
  v53 := Try.zeroValue83
  i53 := by kernel_rfl
  t54 := Try.underlying84
  a54 := Try.isAgg84
  z54 := Try.sizeOf84
  v54 := Try.zeroValue84
  i54 := by kernel_rfl
  t58 := Try.underlying88
  a58 := Try.isAgg88
  z58 := Try.sizeOf88
  v58 := Try.zeroValue88
  i58 := by kernel_rfl
  t60 := Try.underlying91
  a60 := Try.isAgg91
  z60 := Try.sizeOf91
  v60 := Try.zeroValue91
  i60 := by kernel_rfl
  t64 := Try.underlying95
  a64 := Try.isAgg95
  z64 := Try.sizeOf95
  v64 := Try.zeroValue95
  i64 := by kernel_rfl
  t66 := Try.underlying97
  a66 := Try.isAgg97
  z66 := Try.sizeOf97
  v66 := Try.zeroValue97
  i66 := by kernel_rfl
  t67 := Try.underlying98
  a67 := Try.isAgg98
  z67 := Try.sizeOf98
  v67 := Try.zeroValue98
  i67 := by kernel_rfl
  t75 := Try.underlying106
  a75 := Try.isAgg106
  z75 := Try.sizeOf106
  v75 := Try.zeroValue106
  i75 := by kernel_rfl
  t76 := Try.underlying107
  a76 := Try.isAgg107
  z76 := Try.sizeOf107
  v76 := Try.zeroValue107
  i76 := by kernel_rfl
  t77 := Try.underlying108
  a77 := Try.isAgg108
  z77 := Try.sizeOf108
  v77 := Try.zeroValue108
  i77 := by kernel_rfl
  t78 := Try.underlying109
  a78 := Try.isAgg109
  z78 := Try.sizeOf109
  v78 := Try.zeroValue109
  i78 := by kernel_rfl
  t79 := Try.underlying110
  a79 := Try.isAgg110
  z79 := Try.sizeOf110
  v79 := Try.zeroValue110
  i79 := by kernel_rfl
  t80 := Try.underlying111
  a80 := Try.isAgg111
  z80 := Try.sizeOf111
  v80 := Try.zeroValue111
  i80 := by kernel_rfl
  t82 := Try.underlying113
  a82 := Try.isAgg113
  z82 := Try.sizeOf113
  v82 := Try.zeroValue113
  i82 := by kernel_rfl }
/-- A slice, told by its parts. -/
def slV (v : Option Addr × Nat × Nat) : Value := .slice v.1 v.2.1 v.2.2
instance : Inhabited (Option Addr × Nat × Nat) := ⟨(none, 0, 0)⟩
def ltX (L : List (List Int)) (i j : Nat) : Bool := ltP (nth L i) (nth L j)
theorem swo_ltX (L : List (List Int)) : Go.Sort.SWO (ltX L) where
  irrefl _ := swo_ltP.irrefl _
  trans _ _ _ h1 h2 := swo_ltP.trans _ _ _ h1 h2
  ntrans _ _ _ h1 h2 := swo_ltP.ntrans _ _ _ h1 h2
/-- A closure 'func(i, k int) bool { return ComparePatterns(out[i], out[k]) < 0 }'. -/
def LessP (g : Nat) : Prop := ∀ (blk c B size : Nat) (W : World) (V : Nat → Option Addr × Nat × Nat) (M : Nat → List Int), W.cell? ⟨B, 0, none⟩ = some (.slice (some ⟨blk, 0, none⟩) size c) → (∀ t, t < size → W.cell? ⟨blk, t, none⟩ = some (slV (V t)) ∧ IntsAt W (slV (V t)) (M t)) →
    ∀ i j : Nat, i < size → j < size → Calls Try.prog g #[.int .i64 i, .int .i64 j, .pointer (some ⟨B, 0, none⟩)] W fun e w' => e = .returned (.bool (ltP (M i) (M j))) ∧ ∃ q, w' = W.drewN q
noncomputable def pSlS : TypeInfo := (Try.prog.info? 24).get (by kernel_rfl)
noncomputable def pSlE : TypeInfo := (Try.prog.info? 35).get (by kernel_rfl)
theorem pSlk (n : Nat) (h2 : 2 ≤ n) : Lib.swapperK n pSlE 23 = 9 := by
  have a : pSlE.hasPointers = true := by kernel_rfl
  have b : (pSlE.bytes == 8) = false := by kernel_rfl
  have c : (n == 0) = false := by simp; omega
  have d : (n == 1) = false := by simp; omega
  simp [Lib.swapperK, a, b, c, d]
theorem pSlo (n : Nat) (h2 : n ≤ 1) : Lib.swapperK n pSlE 23 = n + 1 := by
  rcases Nat.eq_zero_or_pos n with h | h
  · subst h; simp [Lib.swapperK]
  · obtain rfl : n = 1 := by omega
    simp [Lib.swapperK]
set_option maxHeartbeats 2000000 in
theorem sortLists_c (g : Nat) (eg : ∀ args w, (callFunc g args).run Try.prog w = .ok (.enter g args) w) (hL : LessP g) (a : Option Addr) (n c B base : Nat) (vs : List (Option Addr × Nat × Nat)) (L : List (List Int)) (w : World)
    (hO : w.ownsRow base 35 1 (.slice a n c) n (vs.map slV)) (hn : n = vs.length) (hnL : n = L.length) (hP : ∀ i, i < n → IntsAt w (slV (nth vs i)) (nth L i)) (hfar : ∀ i, i < n → ∀ x, (nth vs i).1 = some x → ∀ y, a = some y → x.block ≠ y.block)
    (hB : BoxIs w B [.slice a n c]) (hne : ∀ x, a = some x → B ≠ x.block) (hl : n ≤ 1000000) :
    Calls Try.prog 23 #[.iface 24 (.slice a n c), .func (.func g) #[] #[.pointer (some ⟨B, 0, none⟩)]] w fun e w' => e = .returned (.tuple #[]) ∧ ∃ l' : List Nat, l'.Perm (List.range n) ∧ Asc (ltX L) l' ∧ w'.ownsRow base 35 1 (.slice a n c) n (l'.map fun i => slV (nth vs i)) ∧ BoxIs w' B [.slice a n c] ∧ (∀ C, C ≤ base → C ≤ w.heap.size → Below C w w') ∧ (∀ k, k < w.heap.size → (∀ x, a = some x → k ≠ x.block) → w'.heap[k]? = w.heap[k]?) := by
  have hvs : vs.map slV = (List.range n).map fun i => slV (nth vs i) := by
    apply List.ext_getElem?
    intro i
    by_cases hi : i < vs.length
    · rw [List.getElem?_map, nth_get? vs i hi, List.getElem?_map, List.getElem?_range (by omega)]; rfl
    · rw [List.getElem?_eq_none (by simp; omega), List.getElem?_eq_none (by simp; omega)]
  by_cases h2 : 2 ≤ n
  · rcases hO.2 with ⟨h0, h1'⟩ | ⟨g0, cap, cur, hv, hbg, hg, _⟩
    · omega
    · obtain ⟨rfl, rfl⟩ : a = some ⟨g0, 0, none⟩ ∧ c = cap := by injection hv with h1 h2 h3; exact ⟨h1, h3⟩
      have hgs : g0 < w.heap.size := by
        rcases Nat.lt_or_ge g0 w.heap.size with h | h
        · exact h
        · rw [Array.getElem?_eq_none h] at hg; exact absurd hg (by simp)
      have hne' : B ≠ g0 := hne _ rfl
      have hsz : (List.range n).toArray.size = n := by simp
      have hO' : w.ownsRow base 35 1 (.slice (some ⟨g0, 0, none⟩) n c) n ((List.range n).toArray.toList.map fun i => slV (nth vs i)) := by rw [hvs] at hO; simpa using hO
      have hH : Go.Sort.Holds (fun i => slV (nth vs i)) w g0 0 (List.range n).toArray := holds_own (size := 1) (by simp) hO'
      have hless : LessReads Try.prog g #[.pointer (some ⟨B, 0, none⟩)] (fun i => slV (nth vs i)) (ltX L) g0 0 (List.range n).toArray.size w := by
        intro m os dk hs i j hi hj
        have e : sortWorld (fun i => slV (nth vs i)) w g0 0 m dk os = Go.Sort.putRow (fun i => slV (nth vs i)) (Go.Sort.grow (Go.Sort.ahead w m) os) g0 0 dk := by
          unfold sortWorld; rw [Go.Sort.putRow_grow _ (Go.Sort.ahead w m) _ g0 0 _ hgs]
        have hHg : Go.Sort.Holds (fun i => slV (nth vs i)) (Go.Sort.grow (Go.Sort.ahead w m) os) g0 0 (List.range n).toArray := Go.Sort.holds_grow _ _ _ g0 0 _ hgs (Go.Sort.holds_ahead _ _ _ _ _ _ hH)
        have hWs : w.heap.size ≤ (sortWorld (fun i => slV (nth vs i)) w g0 0 m dk os).heap.size := by
          rw [e]
          show w.heap.size ≤ ((w.heap ++ os).modify g0 _).size
          simp
        have hcell : ∀ (b o : Nat), b < w.heap.size → b ≠ g0 → (sortWorld (fun i => slV (nth vs i)) w g0 0 m dk os).cell? ⟨b, o, none⟩ = w.cell? ⟨b, o, none⟩ := by
          intro b o hb hbg
          rw [e, Go.Sort.cell?_putRow_other _ _ g0 0 dk _ (Or.inl hbg), Go.Sort.cell?_grow _ _ _ hb]
          rfl
        refine hL g0 c B n _ (fun t => nth vs dk[t]!) (fun t => nth L dk[t]!) ?_ (fun t ht => ⟨?_, ?_⟩) i j (by omega) (by omega)
        · rw [hcell B 0 hB.1 hne']
          have := hB.2.1 0
          simpa using this
        · rw [e]
          have := Go.Sort.cell?_putRow _ _ g0 0 (List.range n).toArray dk hHg hs t (by omega)
          rwa [Nat.zero_add] at this
        · by_cases hd : dk[t]! < n
          · obtain ⟨a', n', c', he, h3, h4, h5, hc⟩ := hP _ hd
            refine ⟨a', n', c', he, h3, h4, h5, fun z hz => ?_⟩
            obtain ⟨b, o, hab, hb, hv⟩ := hc z hz
            have he1 : (nth vs dk[t]!).1 = a' := by unfold slV at he; injection he
            exact ⟨b, o, hab, Nat.lt_of_lt_of_le hb hWs, by rw [hcell b _ hb (hfar _ hd _ (he1.trans hab) _ rfl)]; exact hv⟩
          · have hge : vs.length ≤ dk[t]! := by omega
            have hge2 : L.length ≤ dk[t]! := by omega
            have e1 : nth vs dk[t]! = (none, 0, 0) := by unfold nth; rw [List.getD_eq_getElem?_getD, List.getElem?_eq_none hge]; rfl
            have e2 : nth L dk[t]! = [] := by unfold nth; rw [List.getD_eq_getElem?_getD, List.getElem?_eq_none hge2]; rfl
            rw [e1, e2]
            exact ⟨none, 0, 0, rfl, rfl, Nat.le_refl _, by decide, fun z hz => absurd hz (Nat.not_lt_zero _)⟩
      have hS := Any.sort_Slice_sorted sl6p 24 35 pSlS pSlE (by kernel_rfl) (by kernel_rfl) (by kernel_rfl) (by kernel_rfl) 23 (fun _ => by kernel_rfl) (by kernel_rfl) (fun _ => by kernel_rfl) (fun i => slV (nth vs i)) (fun _ => rfl) (ltX L) (swo_ltX L) g _
        eg g0 0 c (List.range n).toArray (by simpa using h2) (by simp; omega) 60 (by rw [pSlk _ (by simpa using h2)]; kernel_rfl) false
        (fun args W => run_callFunc_extern Try.func60 (by kernel_rfl) (by kernel_rfl) (by kernel_rfl) (e := Extern.ReflectliteSwapper.swap false) (by kernel_rfl) args W) _ hless hH hgs
      change Calls Try.prog 23 _ _ _ at hS
      rw [hsz] at hS
      refine hS.mono ?_
      rintro e w' ⟨rfl, d', q, os, hp, hso, rfl⟩
      obtain ⟨p1, p2⟩ := sorted_list (l := List.range n) (d' := d') (by rw [hsz]; exact hp) (by rw [hsz]; exact hso)
      have hz : d'.toList.length = n := by rw [p1.length_eq]; simp
      have hz' : d'.size = n := by simpa using hz
      have hszz := (below_putRow (enc := (fun i => slV (nth vs i))) (w := w) (g := g0) (q := q) (off := 0) (d := d') (os := os) (Nat.zero_le _) (Nat.zero_le _)).size
      refine ⟨rfl, d'.toList, p1, p2, ?_, ⟨?_, ?_, ?_⟩, fun K h1 h2 => below_putRow (by omega) h2, fun k hk' hne2 => ?_⟩
      · exact own_putRow (size := 1) hO (by simpa using hz')
      · exact Nat.lt_of_lt_of_le hB.1 hszz
      · intro j
        rw [Go.Sort.cell?_grow _ _ _ (by have := hB.1; simpa using this), Go.Sort.cell?_putRow_other _ _ g0 0 d' _ (Or.inl hne')]
        exact hB.2.1 j
      · intro j
        have := hB.2.2 j
        rw [Go.Sort.frozen?_grow _ _ _ (by have := hB.1; simpa using this), Go.Sort.frozen?_putRow]
        exact this
      · show ((w.heap.modify g0 _) ++ os)[k]? = _
        rw [Array.getElem?_append_left (by simpa using hk'), Array.getElem?_modify, if_neg (fun h => hne2 _ rfl h.symm)]
  · have hS := Any.sort_Slice_tiny sl6p 24 35 pSlS pSlE (by kernel_rfl) (by kernel_rfl) (by kernel_rfl) (by kernel_rfl) 23 (fun _ => by kernel_rfl) a n c (by omega) (52 + n) (by
      rw [pSlo n (by omega)]
      rcases Nat.eq_zero_or_pos n with h | h
      · subst h; kernel_rfl
      · obtain rfl : n = 1 := by omega
        kernel_rfl) (.func g) #[] #[.pointer (some ⟨B, 0, none⟩)] w
    change Calls Try.prog 23 _ _ _ at hS
    refine hS.mono ?_
    rintro e w' ⟨rfl, os, rfl⟩
    have hb : Below w.heap.size w (Go.Sort.grow w os) := below_grow
    refine ⟨rfl, List.range n, List.Perm.refl _, ?_, by rw [← hvs]; exact own_below hO hb, hB.below hb, fun K h1 h2 => hb.mono h2, fun k hk' _ => hb.block k hk'⟩
    have hn1 : n = 0 ∨ n = 1 := by omega
    rcases hn1 with h | h
    · rw [h]; exact List.Pairwise.nil
    · rw [h]; exact List.pairwise_singleton _ _
end Go.Proofs.Ythkmgahbahaabaa
