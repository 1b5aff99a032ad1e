import Derived.Test.YtmffgmegbappiaaMg23
import Derived.Test.YtmffgmegbappiaaMg4
import Derived.Test.YtmffgmegbappiaaMg12
import Derived.Shelf.SlSortFuncK.WholeK
import Derived.Shelf.GgSortFunc.Tiny
import Derived.Sort.Walk0
import Derived.Ground.GgsProg
/- SortK: sort.Slice by names, at rows of structures that the call owns. -/
namespace Go.Proofs.Ytmffgmegbappiaa
open Go.ChangeShapes Go.WideShapes Go.ChangeAt Go.RowKit Go.Lib Go.Shelf

def sl6k_ren : Go.Shelf.Ren := ⟨fun | 6 => 53 | 10 => 64 | 11 => 65 | 12 => 66 | 13 => 67 | 14 => 68 | 24 => 81 | 25 => 82 | 26 => 83 | 27 => 84 | 28 => 85 | 29 => 86 | 30 => 87 | 31 => 88 | 32 => 89 | 33 => 90 | 34 => 92 | 35 => 93 | 36 => 94 | 37 => 95 | 38 => 96 | 39 => 98 | n => n, fun | 20 => 20 | 26 => 69 | 35 => 82 | 0 => 0 | 37 => 84 | 3 => 3 | 41 => 88 | 44 => 91 | 49 => 97 | 51 => 70 | 4 => 4 | 54 => 101 | 53 => 100 | 58 => 105 | 5 => 5 | 9 => 9 | 60 => 107 | 64 => 111 | 66 => 113 | 67 => 114 | 17 => 17 | 32 => 79 | 33 => 80 | 82 => 129 | 12 => 12 | 75 => 122 | 76 => 123 | 77 => 124 | 78 => 125 | 79 => 126 | 80 => 127 | n => n, fun | n => n⟩
theorem sl6k : Go.Proofs.LaysGg.n6 Try.prog sl6k_ren := {
  mixed := by kernel_rfl
  f6 := Try.func53.trans (congrArg some (by kernel_rfl))
  f10 := Try.func64.trans (congrArg some (by kernel_rfl))
  f11 := Try.func65.trans (congrArg some (by kernel_rfl))
  f12 := Try.func66.trans (congrArg some (by kernel_rfl))
  f13 := Try.func67.trans (congrArg some (by kernel_rfl))
  f14 := Try.func68.trans (congrArg some (by kernel_rfl))
  f24 := Try.func81.trans (congrArg some (by kernel_rfl))
  f25 := Try.func82.trans (congrArg some (by kernel_rfl))
  f26 := Try.func83.trans (congrArg some (by kernel_rfl))
  f27 := Try.func84.trans (congrArg some (by kernel_rfl))
  f28 := Try.func85.trans (congrArg some (by kernel_rfl))
  f29 := Try.func86.trans (congrArg some (by kernel_rfl))
  f30 := Try.func87.trans (congrArg some (by kernel_rfl))
  f31 := Try.func88.trans (congrArg some (by kernel_rfl))
  f32 := Try.func89.trans (congrArg some (by kernel_rfl))
  f33 := Try.func90.trans (congrArg some (by kernel_rfl))
  f34 := Try.func92.trans (congrArg some (by kernel_rfl))
  f35 := Try.func93.trans (congrArg some (by kernel_rfl))
  f36 := Try.func94.trans (congrArg some (by kernel_rfl))
  f37 := Try.func95.trans (congrArg some (by kernel_rfl))
  f38 := Try.func96.trans (congrArg some (by kernel_rfl))
  f39 := Try.func98.trans (congrArg some (by kernel_rfl))
  t0 := Try.underlying0
  a0 := Try.isAgg0
  z0 := Try.sizeOf0
  v0 := Try.zeroValue0
  i0 := by kernel_rfl
  t3 := Try.underlying3
  a3 := Try.isAgg3
  z3 := Try.sizeOf3
  v3 := Try.zeroValue3
  i3 := by kernel_rfl
  t4 := Try.underlying4
  a4 := Try.isAgg4
  z4 := Try.sizeOf4
  v4 := Try.zeroValue4
  i4 := by kernel_rfl
  t5 := Try.underlying5
  a5 := Try.isAgg5
  z5 := Try.sizeOf5
  v5 := Try.zeroValue5
  i5 := by kernel_rfl
  t9 := Try.underlying9
  a9 := Try.isAgg9
  z9 := Try.sizeOf9
  v9 := Try.zeroValue9
  i9 := by kernel_rfl
  t12 := Try.underlying12
  a12 := Try.isAgg12
  z12 := Try.sizeOf12
  v12 := Try.zeroValue12
  i12 := by kernel_rfl
  t17 := Try.underlying17
  a17 := Try.isAgg17
  z17 := Try.sizeOf17
  v17 := Try.zeroValue17
  i17 := by kernel_rfl
  t20 := Try.underlying20
  a20 := Try.isAgg20
  z20 := Try.sizeOf20
  v20 := Try.zeroValue20
  i20 := by kernel_rfl
  t26 := Try.underlying69
  a26 := Try.isAgg69
  z26 := Try.sizeOf69
  v26 := Try.zeroValue69
  i26 := by kernel_rfl
  t32 := Try.underlying79
  a32 := Try.isAgg79
  z32 := Try.sizeOf79
  v32 := Try.zeroValue79
  i32 := by kernel_rfl
  t33 := Try.underlying80
  a33 := Try.isAgg80
  z33 := Try.sizeOf80
  v33 := Try.zeroValue80
  i33 := by kernel_rfl
  t35 := Try.underlying82
  a35 := Try.isAgg82
  z35 := Try.sizeOf82
  v35 := Try.zeroValue82
  i35 := by kernel_rfl
  t37 := Try.underlying84
  a37 := Try.isAgg84
  z37 := Try.sizeOf84
  v37 := Try.zeroValue84
  i37 := by kernel_rfl
  t41 := Try.underlying88
  a41 := Try.isAgg88
  z41 := Try.sizeOf88
  v41 := Try.zeroValue88
  i41 := by kernel_rfl
  t44 := Try.underlying91
  a44 := Try.isAgg91
  z44 := Try.sizeOf91
  v44 := Try.zeroValue91
  i44 := by kernel_rfl
  t49 := Try.underlying97
  a49 := Try.isAgg97
  z49 := Try.sizeOf97
  v49 := Try.zeroValue97
  i49 := by kernel_rfl
  t51 := Try.underlying70
  a51 := Try.isAgg70
  z51 := Try.sizeOf70
  v51 := Try.zeroValue70
  i51 := by kernel_rfl
  t53 := Try.underlying100
  a53 := Try.isAgg100
  z53 := Try.sizeOf100
  v53 := Try.zeroValue100
  i53 := by kernel_rfl
  t54 := Try.underlying101
  a54 := Try.isAgg101
  z54 := Try.sizeOf101
  v54 := Try.zeroValue101
  i54 := by kernel_rfl
  t58 := Try.underlying105
  a58 := Try.isAgg105
  z58 := Try.sizeOf105
  v58 := Try.zeroValue105
  i58 := by kernel_rfl
  t60 := Try.underlying107
  a60 := Try.isAgg107
  z60 := Try.sizeOf107
  v60 := Try.zeroValue107
  i60 := by kernel_rfl
  t64 := Try.underlying111
  a64 := Try.isAgg111
  z64 := Try.sizeOf111
  v64 := Try.zeroValue111
  i64 := by kernel_rfl
  t66 := Try.underlying113
  a66 := Try.isAgg113
  z66 := Try.sizeOf113
  v66 := Try.zeroValue113
  i66 := by kernel_rfl
  t67 := Try.underlying114
  a67 := Try.isAgg114
  z67 := Try.sizeOf114
  v67 := Try.zeroValue114
  i67 := by kernel_rfl
  t75 := Try.underlying122
  a75 := Try.isAgg122
  z75 := Try.sizeOf122
  v75 := Try.zeroValue122
  i75 := by kernel_rfl
  t76 := Try.underlying123
  a76 := Try.isAgg123
  z76 := Try.sizeOf123
  v76 := Try.zeroValue123
  i76 := by kernel_rfl
  t77 := Try.underlying124
  a77 := Try.isAgg124
  z77 := Try.sizeOf124
  v77 := Try.zeroValue124
  i77 := by kernel_rfl
  t78 := Try.underlying125
  a78 := Try.isAgg125
  z78 := Try.sizeOf125
  v78 := Try.zeroValue125
  i78 := by kernel_rfl
  t79 := Try.underlying126
  a79 := Try.isAgg126
  z79 := Try.sizeOf126
  v79 := Try.zeroValue126
  i79 := by kernel_rfl
  t80 := Try.underlying127
  a80 := Try.isAgg127
  z80 := Try.sizeOf127
  v80 := Try.zeroValue127
  i80 := by kernel_rfl
  t82 := Try.underlying129
  a82 := Try.isAgg129
  z82 := Try.sizeOf129
  v82 := Try.zeroValue129
  i82 := by kernel_rfl }

theorem lessB_eq (a b : ByteArray) : lessB a b = Go.Sort.ltStr a.toList b.toList := Go.Proofs.bytesLess_eq _ _
def ltN {β : Type} (nm : β → ByteArray) (x y : β) : Bool := lessB (nm x) (nm y)
theorem swo_ltN {β : Type} (nm : β → ByteArray) : Go.Sort.SWO (ltN nm) where
  irrefl x := by unfold ltN; rw [lessB_eq]; exact Go.Sort.swo_ltStr.irrefl _
  trans x y z h1 h2 := by unfold ltN at *; rw [lessB_eq] at *; exact Go.Sort.swo_ltStr.trans _ _ _ h1 h2
  ntrans x y z h1 h2 := by unfold ltN at *; rw [lessB_eq] at *; exact Go.Sort.swo_ltStr.ntrans _ _ _ h1 h2
theorem lessB_anti {a b : ByteArray} (h1 : lessB a b = false) (h2 : lessB b a = false) : a = b := by
  have h := less_total a.toList b.toList
  unfold lessB at h1 h2
  rw [h1, h2] at h
  have h3 : (a.toList == b.toList) = true := by simpa using h
  rw [beq_bytes] at h3
  exact of_decide_eq_true h3
theorem flatK_list {β : Type} [Inhabited β] (enc : β → List Value) (k : Nat) (hk : ∀ x, (enc x).length = k) (d : Array β) : (Go.Sort.flatK enc k d).toList = d.toList.flatMap enc := by
  refine flat_ext enc k hk d.toList _ (by simp) ?_
  intro i hi j hj
  have hi' : i < d.size := by simpa using hi
  have hlt : i * k + j < d.size * k := by
    have := Nat.mul_le_mul_right k (show i + 1 ≤ d.size from hi'); rw [Nat.add_mul, Nat.one_mul] at this; omega
  have e1 : (i * k + j) / k = i := (Go.Sort.blk_iff k i _ (by omega)).1 ⟨by omega, by omega⟩
  have e2 : (i * k + j) % k = j := by rw [Nat.mul_comm, Nat.mul_add_mod]; exact Nat.mod_eq_of_lt hj
  have hg := Go.Sort.get_flatK enc k d (i * k + j) hlt
  rw [e1, e2] at hg
  have hs : i * k + j < (Go.Sort.flatK enc k d).size := by simpa using hlt
  have hg2 : (Go.Sort.flatK enc k d)[i * k + j]! = (Go.Sort.flatK enc k d)[i * k + j] := getElem!_pos (Go.Sort.flatK enc k d) (i * k + j) hs
  rw [hg2] at hg
  rw [Array.getElem?_toList, Array.getElem?_eq_getElem hs, hg, nth_eq _ _ hi, Array.getElem_toList, getElem!_pos d i hi']
  rw [List.getElem?_eq_getElem (by rw [hk]; exact hj), getElem!_pos _ j (by rw [hk]; exact hj)]
/-- A closure 'func(i, k int) bool { return list[i].Name < list[k].Name }', the name in the first of K cells. -/
def LessN (g K : Nat) : Prop := ∀ (blk c B size : Nat) (W : World) (G : Nat → ByteArray), W.cell? ⟨B, 0, none⟩ = some (.slice (some ⟨blk, 0, none⟩) size c) → (∀ t, t < size → W.cell? ⟨blk, t * K, none⟩ = some (.string (G t))) →
    ∀ i j : Nat, i < size → j < size → Calls Try.prog g #[.int .i64 i, .int .i64 j, .pointer (some ⟨B, 0, none⟩)] W fun e w' => e = .returned (.bool (lessB (G i) (G j))) ∧ ∃ q, w' = W.drewN q

noncomputable def cSlS : TypeInfo := (Try.prog.info? 24).get (by kernel_rfl)
noncomputable def cSlE : TypeInfo := (Try.prog.info? 38).get (by kernel_rfl)
theorem cSlk (n : Nat) (h2 : 2 ≤ n) : Lib.swapperK n cSlE 25 = 9 := by
  have a : cSlE.hasPointers = true := by kernel_rfl
  have b : (cSlE.bytes == 8) = false := by kernel_rfl
  have c : (n == 0) = false := by simp; omega
  have d : (n == 1) = false := by simp; omega
  simp [Lib.swapperK, a, b, c, d]
theorem cSlo (n : Nat) (h2 : n ≤ 1) : Lib.swapperK n cSlE 25 = n + 1 := by
  rcases Nat.eq_zero_or_pos n with h | h
  · subst h; simp [Lib.swapperK]
  · obtain rfl : n = 1 := by omega
    simp [Lib.swapperK]
set_option maxHeartbeats 2000000 in
theorem sortCards_c {β : Type} [Inhabited β] (enc : β → List Value) (hk : ∀ x, (enc x).length = 3) (h1 : ∀ x, ∀ v ∈ enc x, v.oneCell' = true) (nm : β → ByteArray) (hnm : ∀ x, (enc x)[0]? = some (.string (nm x)))
    (g : Nat) (eg : ∀ args w, (callFunc g args).run Try.prog w = .ok (.enter g args) w) (hL : LessN g 3) (a : Option Addr) (n c B base : Nat) (l : List β) (w : World)
    (hO : w.ownsRow base 38 3 (.slice a n c) n (l.flatMap enc)) (hn : n = l.length) (hB : BoxIs w B [.slice a n c]) (hne : ∀ x, a = some x → B ≠ x.block) (hl : l.length ≤ 1000000) :
    Calls Try.prog 53 #[.iface 24 (.slice a n c), .func (.func g) #[] #[.pointer (some ⟨B, 0, none⟩)]] w fun e w' => e = .returned (.tuple #[]) ∧ ∃ l' : List β, l'.Perm l ∧ Asc (ltN nm) l' ∧ w'.ownsRow base 38 3 (.slice a n c) n (l'.flatMap enc) ∧ BoxIs w' B [.slice a n c] ∧ (∀ C, C ≤ base → C ≤ w.heap.size → Below C w w') ∧ (∀ b l, b ≠ B → BoxIs w b l → (∀ x, a = some x → b ≠ x.block) → BoxIs w' b l) ∧ (∀ k, k < w.heap.size → (∀ x, a = some x → k ≠ x.block) → w'.heap[k]? = w.heap[k]?) := by
  by_cases h2 : 2 ≤ n
  · rcases hO.2 with ⟨h0, h1'⟩ | ⟨g0, cap, cur, hv, hbg, hg, _⟩
    · omega
    · obtain ⟨rfl, rfl⟩ : a = some ⟨g0, 0, none⟩ ∧ c = cap := by injection hv with h1 h2 h3; exact ⟨h1, h3⟩
      have hgs : g0 < w.heap.size := by
        rcases Nat.lt_or_ge g0 w.heap.size with h | h
        · exact h
        · rw [Array.getElem?_eq_none h] at hg; exact absurd hg (by simp)
      subst hn
      have hne' : B ≠ g0 := hne _ rfl
      have hO' : w.ownsRow base 38 3 (.slice (some ⟨g0, 0, none⟩) l.length c) l.length ((Go.Sort.flatK enc 3 l.toArray).toList.map id) := by rw [List.map_id, flatK_list enc 3 hk]; exact hO
      have hH : Go.Sort.HoldsK enc 3 w g0 0 l.toArray := holds_own (size := 3) (by simp) hO'
      have hless : LessReadsK Try.prog g #[.pointer (some ⟨B, 0, none⟩)] enc 3 (ltN nm) g0 0 l.toArray.size w := by
        intro m os dk hs i j hi hj
        have e : sortWorldK enc 3 w g0 0 m dk os = Go.Sort.putRowK enc 3 (Go.Sort.grow (Go.Sort.ahead w m) os) g0 0 dk := by
          unfold sortWorldK; rw [Go.Sort.putRowK_grow enc 3 (Go.Sort.ahead w m) _ g0 0 _ hgs]
        have hHg : Go.Sort.HoldsK enc 3 (Go.Sort.grow (Go.Sort.ahead w m) os) g0 0 l.toArray := Go.Sort.holdsK_grow enc 3 _ _ g0 0 l.toArray hgs (Go.Sort.holdsK_ahead enc 3 _ _ _ _ _ hH)
        refine hL g0 c B l.toArray.size _ (fun t => nm dk[t]!) ?_ (fun t ht => ?_) i j hi hj
        · rw [e, Go.Sort.cell?_putRowK_other enc 3 _ g0 0 dk _ hne', Go.Sort.cell?_grow _ _ _ hB.1]
          have := hB.2.1 0
          simpa using this
        · rw [e]
          have := ((Go.Sort.holdsK_putRowK enc 3 _ g0 0 l.toArray dk hHg hs).cell (i := t) (c := 0) (by omega) (by decide)).1
          rw [Nat.zero_add, Nat.add_zero] at this
          rw [this, ← hnm, getElem!_pos _ 0 (by rw [hk]; decide), ← List.getElem?_eq_getElem]
      have hS := Any.sort_Slice_cells_sorted sl6k 24 38 cSlS cSlE (by kernel_rfl) (by kernel_rfl) (by kernel_rfl) (by kernel_rfl) 25 (fun _ => by kernel_rfl) enc 3 hk (by kernel_rfl) (fun _ => by kernel_rfl) h1 (ltN nm) (swo_ltN nm) g _
        eg g0 0 c l.toArray (by simpa using h2) (by simp; omega) 80 (by rw [cSlk _ (by simpa using h2)]; kernel_rfl) false
        (fun args W => run_callFunc_extern Try.func80 (by kernel_rfl) (by kernel_rfl) (by kernel_rfl) (e := Extern.ReflectliteSwapper.swap false) (by kernel_rfl) args W) _ hless hH hgs
      change Calls Try.prog 53 _ _ _ at hS
      rw [show l.toArray.size = l.length by simp] at hS
      refine hS.mono ?_
      rintro e w' ⟨rfl, d', q, os, hp, hso, rfl⟩
      obtain ⟨p1, p2⟩ := sorted_list (by simpa using hp) (by simpa using hso)
      have hz : d'.toList.length = l.length := p1.length_eq
      have hz' : d'.size = l.length := by simpa using hz
      have hsz := (below_putRow (enc := id) (w := w) (g := g0) (q := q) (off := 0) (d := Go.Sort.flatK enc 3 d') (os := os) (Nat.zero_le _) (Nat.zero_le _)).size
      have HBX : ∀ b l, b ≠ g0 → BoxIs w b l → BoxIs (Go.Sort.grow (Go.Sort.putRowK enc 3 (Go.Sort.ahead w q) g0 0 d') os) b l := by
        intro b l hb hl
        refine ⟨Nat.lt_of_lt_of_le hl.1 hsz, fun j => ?_, fun j => ?_⟩
        · rw [Go.Sort.cell?_grow _ _ _ (by have := hl.1; simpa [Go.Sort.putRowK] using this), Go.Sort.cell?_putRowK_other enc 3 _ g0 0 d' _ hb]
          exact hl.2.1 j
        · have := hl.2.2 j
          rw [Go.Sort.frozen?_grow _ _ _ (by have := hl.1; simpa [Go.Sort.putRowK] using this)]
          unfold Go.Sort.putRowK
          rw [Go.Sort.frozen?_putRow]
          exact this
      refine ⟨rfl, d'.toList, p1, p2, ?_, HBX B _ hne' hB, fun K h1 h2 => below_putRow (by omega) h2, fun b l _ hl hb => HBX b l (hb _ rfl) hl, fun k hk' hne2 => ?_⟩
      · have := own_putRow (enc := id) (q := q) (os := os) (d := Go.Sort.flatK enc 3 d') (size := 3) hO (by rw [Go.Sort.size_flatK, hz'])
        rw [List.map_id, flatK_list enc 3 hk] at this
        exact this
      · show ((w.heap.modify g0 _) ++ os)[k]? = _
        rw [Array.getElem?_append_left (by simpa using hk'), Array.getElem?_modify, if_neg (fun h => hne2 _ rfl h.symm)]
  · have hS := Any.sort_Slice_tiny sl6k 24 38 cSlS cSlE (by kernel_rfl) (by kernel_rfl) (by kernel_rfl) (by kernel_rfl) 25 (fun _ => by kernel_rfl) a n c (by omega) (72 + n) (by
      rw [cSlo n (by omega)]
      rcases Nat.eq_zero_or_pos n with h | h
      · subst h; kernel_rfl
      · obtain rfl : n = 1 := by omega
        kernel_rfl) (.func g) #[] #[.pointer (some ⟨B, 0, none⟩)] w
    change Calls Try.prog 53 _ _ _ at hS
    refine hS.mono ?_
    rintro e w' ⟨rfl, os, rfl⟩
    have hb : Below w.heap.size w (Go.Sort.grow w os) := below_grow
    refine ⟨rfl, l, List.Perm.refl _, ?_, own_below hO hb, hB.below hb, fun K h1 h2 => hb.mono h2, fun b l _ hl _ => hl.below hb, fun k hk' _ => hb.block k hk'⟩
    match l, hn with
    | [], _ => exact List.Pairwise.nil
    | [x], _ => exact List.pairwise_singleton _ _
    | x :: y :: r, hn => simp at hn; omega
end Go.Proofs.Ytmffgmegbappiaa
