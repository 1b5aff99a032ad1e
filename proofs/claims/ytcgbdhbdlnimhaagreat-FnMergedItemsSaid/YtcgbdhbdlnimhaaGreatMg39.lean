import Derived.Test.YtcgbdhbdlnimhaaGreatMg38
import Derived.Test.YtcgbdhbdlnimhaaGreatMg4
import Derived.Test.YtcgbdhbdlnimhaaGreatMg7
import Derived.Shelf.SlSortFuncK.WholeK
import Derived.Shelf.GgSortFunc.Tiny
import Derived.Sort.Walk0
import Derived.Ground.GgsProg
/- SortK: sort.Slice by names, at rows of structures that the call owns. -/
namespace Go.Proofs.YtcgbdhbdlnimhaaGreat
open Go.ChangeShapes Go.WideShapes Go.ChangeAt Go.RowKit Go.Lib Go.Shelf

def sl6k_ren : Go.Shelf.Ren := ⟨fun | 6 => 92 | 10 => 111 | 11 => 112 | 12 => 113 | 13 => 114 | 14 => 115 | 24 => 129 | 25 => 130 | 26 => 131 | 27 => 132 | 28 => 133 | 29 => 134 | 30 => 135 | 31 => 136 | 32 => 137 | 33 => 138 | 34 => 140 | 35 => 141 | 36 => 142 | 37 => 143 | 38 => 144 | 39 => 145 | n => n, fun | 20 => 20 | 26 => 106 | 35 => 114 | 0 => 0 | 37 => 116 | 3 => 3 | 41 => 83 | 44 => 122 | 49 => 127 | 51 => 43 | 4 => 4 | 54 => 131 | 53 => 130 | 58 => 135 | 5 => 5 | 9 => 9 | 60 => 137 | 64 => 141 | 66 => 143 | 67 => 144 | 17 => 17 | 32 => 111 | 33 => 112 | 82 => 159 | 12 => 12 | 75 => 152 | 76 => 153 | 77 => 154 | 78 => 155 | 79 => 156 | 80 => 157 | n => n, fun | n => n⟩
theorem sl6k : Go.Proofs.LaysGg.n6 Tryz.prog sl6k_ren := {
  mixed := by kernel_rfl
  f6 := Tryz.func92.trans (congrArg some (by kernel_rfl))
  f10 := Tryz.func111.trans (congrArg some (by kernel_rfl))
  f11 := Tryz.func112.trans (congrArg some (by kernel_rfl))
  f12 := Tryz.func113.trans (congrArg some (by kernel_rfl))
  f13 := Tryz.func114.trans (congrArg some (by kernel_rfl))
  f14 := Tryz.func115.trans (congrArg some (by kernel_rfl))
  f24 := Tryz.func129.trans (congrArg some (by kernel_rfl))
  f25 := Tryz.func130.trans (congrArg some (by kernel_rfl))
  f26 := Tryz.func131.trans (congrArg some (by kernel_rfl))
  f27 := Tryz.func132.trans (congrArg some (by kernel_rfl))
  f28 := Tryz.func133.trans (congrArg some (by kernel_rfl))
  f29 := Tryz.func134.trans (congrArg some (by kernel_rfl))
  f30 := Tryz.func135.trans (congrArg some (by kernel_rfl))
  f31 := Tryz.func136.trans (congrArg some (by kernel_rfl))
  f32 := Tryz.func137.trans (congrArg some (by kernel_rfl))
  f33 := Tryz.func138.trans (congrArg some (by kernel_rfl))
  f34 := Tryz.func140.trans (congrArg some (by kernel_rfl))
  f35 := Tryz.func141.trans (congrArg some (by kernel_rfl))
  f36 := Tryz.func142.trans (congrArg some (by kernel_rfl))
  f37 := Tryz.func143.trans (congrArg some (by kernel_rfl))
  f38 := Tryz.func144.trans (congrArg some (by kernel_rfl))
  f39 := Tryz.func145.trans (congrArg some (by kernel_rfl))
  t0 := Tryz.underlying0
  a0 := Tryz.isAgg0
  z0 := Tryz.sizeOf0
  v0 := Tryz.zeroValue0
  i0 := by kernel_rfl
  t3 := Tryz.underlying3
  a3 := Tryz.isAgg3
  z3 := Tryz.sizeOf3
  v3 := Tryz.zeroValue3
  i3 := by kernel_rfl
  t4 := Tryz.underlying4
  a4 := Tryz.isAgg4
  z4 := Tryz.sizeOf4
  v4 := Tryz.zeroValue4
  i4 := by kernel_rfl
  t5 := Tryz.underlying5
  a5 := Tryz.isAgg5
  z5 := Tryz.sizeOf5
  v5 := Tryz.zeroValue5
  i5 := by kernel_rfl
  t9 := Tryz.underlying9
  a9 := Tryz.isAgg9
  z9 := Tryz.sizeOf9
  v9 := Tryz.zeroValue9
  i9 := by kernel_rfl
  t12 := Tryz.underlying12
  a12 := Tryz.isAgg12
  z12 := Tryz.sizeOf12
  v12 := Tryz.zeroValue12
  i12 := by kernel_rfl
  t17 := Tryz.underlying17
  a17 := Tryz.isAgg17
  z17 := Tryz.sizeOf17
  v17 := Tryz.zeroValue17
  i17 := by kernel_rfl
  t20 := Tryz.underlying20
  a20 := Tryz.isAgg20
  z20 := Tryz.sizeOf20
  v20 := Tryz.zeroValue20
  i20 := by kernel_rfl
  t26 := Tryz.underlying106
  a26 := Tryz.isAgg106
  z26 := Tryz.sizeOf106
  v26 := Tryz.zeroValue106
  i26 := by kernel_rfl
  t32 := Tryz.underlying111
  a32 := Tryz.isAgg111
  z32 := Tryz.sizeOf111
  v32 := Tryz.zeroValue111
  i32 := by kernel_rfl
  t33 := Tryz.underlying112
  a33 := Tryz.isAgg112
  z33 := Tryz.sizeOf112
  v33 := Tryz.zeroValue112
  i33 := by kernel_rfl
  t35 := Tryz.underlying114
  a35 := Tryz.isAgg114
  z35 := Tryz.sizeOf114
  v35 := Tryz.zeroValue114
  i35 := by kernel_rfl
  t37 := Tryz.underlying116
  a37 := Tryz.isAgg116
  z37 := Tryz.sizeOf116
  v37 := Tryz.zeroValue116
  i37 := by kernel_rfl
  t41 := Tryz.underlying83
  a41 := Tryz.isAgg83
  z41 := Tryz.sizeOf83
  v41 := Tryz.zeroValue83
  i41 := by kernel_rfl
  t44 := Tryz.underlying122
  a44 := Tryz.isAgg122
  z44 := Tryz.sizeOf122
  v44 := Tryz.zeroValue122
  i44 := by kernel_rfl
  t49 := Tryz.underlying127
  a49 := Tryz.isAgg127
  z49 := Tryz.sizeOf127
  v49 := Tryz.zeroValue127
  i49 := by kernel_rfl
  t51 := Tryz.underlying43
  a51 := Tryz.isAgg43
  z51 := Tryz.sizeOf43
  v51 := Tryz.zeroValue43
  i51 := by kernel_rfl
  t53 := Tryz.underlying130
  a53 := Tryz.isAgg130
  z53 := Tryz.sizeOf130
  v53 := Tryz.zeroValue130
  i53 := by kernel_rfl
  t54 := Tryz.underlying131
  a54 := Tryz.isAgg131
  z54 := Tryz.sizeOf131
  v54 := Tryz.zeroValue131
  i54 := by kernel_rfl
  t58 := Tryz.underlying135
  a58 := Tryz.isAgg135
  z58 := Tryz.sizeOf135
  v58 := Tryz.zeroValue135
  i58 := by kernel_rfl
  t60 := Tryz.underlying137
  a60 := Tryz.isAgg137
  z60 := Tryz.sizeOf137
  v60 := Tryz.zeroValue137
  i60 := by kernel_rfl
  t64 := Tryz.underlying141
  a64 := Tryz.isAgg141
  z64 := Tryz.sizeOf141
  v64 := Tryz.zeroValue141
  i64 := by kernel_rfl
  t66 := Tryz.underlying143
  a66 := Tryz.isAgg143
  z66 := Tryz.sizeOf143
  v66 := Tryz.zeroValue143
  i66 := by kernel_rfl
  t67 := Tryz.underlying144
  a67 := Tryz.isAgg144
  z67 := Tryz.sizeOf144
  v67 := Tryz.zeroValue144
  i67 := by kernel_rfl
  t75 := Tryz.underlying152
  a75 := Tryz.isAgg152
  z75 := Tryz.sizeOf152
  v75 := Tryz.zeroValue152
  i75 := by kernel_rfl
  t76 := Tryz.underlying153
  a76 := Tryz.isAgg153
  z76 := Tryz.sizeOf153
  v76 := Tryz.zeroValue153
  i76 := by kernel_rfl
  t77 := Tryz.underlying154
  a77 := Tryz.isAgg154
  z77 := Tryz.sizeOf154
  v77 := Tryz.zeroValue154
  i77 := by kernel_rfl
  t78 := Tryz.underlying155
  a78 := Tryz.isAgg155
  z78 := Tryz.sizeOf155
  v78 := Tryz.zeroValue155
  i78 := by kernel_rfl
  t79 := Tryz.underlying156
  a79 := Tryz.isAgg156
  z79 := Tryz.sizeOf156
  v79 := Tryz.zeroValue156
  i79 := by kernel_rfl
  t80 := Tryz.underlying157
  a80 := Tryz.isAgg157
  z80 := Tryz.sizeOf157
  v80 := Tryz.zeroValue157
  i80 := by kernel_rfl
  t82 := Tryz.underlying159
  a82 := Tryz.isAgg159
  z82 := Tryz.sizeOf159
  v82 := Tryz.zeroValue159
  i82 := by kernel_rfl }

theorem lessB_eq (a b : ByteArray) : lessB a b = Go.Sort.ltStr a.toList b.toList := Go.Proofs.bytesLess_eq _ _
def ltN {β : Type} (nm : β → ByteArray) (x y : β) : Bool := lessB (nm x) (nm y)
theorem swo_ltN {β : Type} (nm : β → ByteArray) : Go.Sort.SWO (ltN nm) where
  irrefl x := by unfold ltN; rw [lessB_eq]; exact Go.Sort.swo_ltStr.irrefl _
  trans x y z h1 h2 := by unfold ltN at *; rw [lessB_eq] at *; exact Go.Sort.swo_ltStr.trans _ _ _ h1 h2
  ntrans x y z h1 h2 := by unfold ltN at *; rw [lessB_eq] at *; exact Go.Sort.swo_ltStr.ntrans _ _ _ h1 h2
theorem lessB_anti {a b : ByteArray} (h1 : lessB a b = false) (h2 : lessB b a = false) : a = b := by
  have h := less_total a.toList b.toList
  unfold lessB at h1 h2
  rw [h1, h2] at h
  have h3 : (a.toList == b.toList) = true := by simpa using h
  rw [beq_bytes] at h3
  exact of_decide_eq_true h3
theorem flatK_list {β : Type} [Inhabited β] (enc : β → List Value) (k : Nat) (hk : ∀ x, (enc x).length = k) (d : Array β) : (Go.Sort.flatK enc k d).toList = d.toList.flatMap enc := by
  refine flat_ext enc k hk d.toList _ (by simp) ?_
  intro i hi j hj
  have hi' : i < d.size := by simpa using hi
  have hlt : i * k + j < d.size * k := by
    have := Nat.mul_le_mul_right k (show i + 1 ≤ d.size from hi'); rw [Nat.add_mul, Nat.one_mul] at this; omega
  have e1 : (i * k + j) / k = i := (Go.Sort.blk_iff k i _ (by omega)).1 ⟨by omega, by omega⟩
  have e2 : (i * k + j) % k = j := by rw [Nat.mul_comm, Nat.mul_add_mod]; exact Nat.mod_eq_of_lt hj
  have hg := Go.Sort.get_flatK enc k d (i * k + j) hlt
  rw [e1, e2] at hg
  have hs : i * k + j < (Go.Sort.flatK enc k d).size := by simpa using hlt
  have hg2 : (Go.Sort.flatK enc k d)[i * k + j]! = (Go.Sort.flatK enc k d)[i * k + j] := getElem!_pos (Go.Sort.flatK enc k d) (i * k + j) hs
  rw [hg2] at hg
  rw [Array.getElem?_toList, Array.getElem?_eq_getElem hs, hg, nth_eq _ _ hi, Array.getElem_toList, getElem!_pos d i hi']
  rw [List.getElem?_eq_getElem (by rw [hk]; exact hj), getElem!_pos _ j (by rw [hk]; exact hj)]
/-- A closure 'func(i, k int) bool { return list[i].Name < list[k].Name }', the name in the first of K cells. -/
def LessN (g K : Nat) : Prop := ∀ (blk c B size : Nat) (W : World) (G : Nat → ByteArray), W.cell? ⟨B, 0, none⟩ = some (.slice (some ⟨blk, 0, none⟩) size c) → (∀ t, t < size → W.cell? ⟨blk, t * K, none⟩ = some (.string (G t))) →
    ∀ i j : Nat, i < size → j < size → Calls Tryz.prog g #[.int .i64 i, .int .i64 j, .pointer (some ⟨B, 0, none⟩)] W fun e w' => e = .returned (.bool (lessB (G i) (G j))) ∧ ∃ q, w' = W.drewN q

noncomputable def iSlS : TypeInfo := (Tryz.prog.info? 24).get (by kernel_rfl)
noncomputable def iSlE : TypeInfo := (Tryz.prog.info? 62).get (by kernel_rfl)
theorem iSlk (n : Nat) (h2 : 2 ≤ n) : Lib.swapperK n iSlE 25 = 9 := by
  have a : iSlE.hasPointers = true := by kernel_rfl
  have b : (iSlE.bytes == 8) = false := by kernel_rfl
  have c : (n == 0) = false := by simp; omega
  have d : (n == 1) = false := by simp; omega
  simp [Lib.swapperK, a, b, c, d]
theorem iSlo (n : Nat) (h2 : n ≤ 1) : Lib.swapperK n iSlE 25 = n + 1 := by
  rcases Nat.eq_zero_or_pos n with h | h
  · subst h; simp [Lib.swapperK]
  · obtain rfl : n = 1 := by omega
    simp [Lib.swapperK]
set_option maxHeartbeats 2000000 in
theorem sortItems_k {β : Type} [Inhabited β] (enc : β → List Value) (hk : ∀ x, (enc x).length = 2) (h1 : ∀ x, ∀ v ∈ enc x, v.oneCell' = true) (nm : β → ByteArray) (hnm : ∀ x, (enc x)[0]? = some (.string (nm x)))
    (g : Nat) (eg : ∀ args w, (callFunc g args).run Tryz.prog w = .ok (.enter g args) w) (hL : LessN g 2) (a : Option Addr) (n c B base : Nat) (l : List β) (w : World)
    (hO : w.ownsRow base 62 2 (.slice a n c) n (l.flatMap enc)) (hn : n = l.length) (hB : BoxIs w B [.slice a n c]) (hne : ∀ x, a = some x → B ≠ x.block) (hl : l.length ≤ 1000000) :
    Calls Tryz.prog 92 #[.iface 24 (.slice a n c), .func (.func g) #[] #[.pointer (some ⟨B, 0, none⟩)]] w fun e w' => e = .returned (.tuple #[]) ∧ ∃ l' : List β, l'.Perm l ∧ Asc (ltN nm) l' ∧ w'.ownsRow base 62 2 (.slice a n c) n (l'.flatMap enc) ∧ BoxIs w' B [.slice a n c] ∧ (∀ C, C ≤ base → C ≤ w.heap.size → Below C w w') ∧ (∀ b l, b ≠ B → BoxIs w b l → (∀ x, a = some x → b ≠ x.block) → BoxIs w' b l) ∧ (∀ k, k < w.heap.size → (∀ x, a = some x → k ≠ x.block) → w'.heap[k]? = w.heap[k]?) := by
  by_cases h2 : 2 ≤ n
  · rcases hO.2 with ⟨h0, h1'⟩ | ⟨g0, cap, cur, hv, hbg, hg, _⟩
    · omega
    · obtain ⟨rfl, rfl⟩ : a = some ⟨g0, 0, none⟩ ∧ c = cap := by injection hv with h1 h2 h3; exact ⟨h1, h3⟩
      have hgs : g0 < w.heap.size := by
        rcases Nat.lt_or_ge g0 w.heap.size with h | h
        · exact h
        · rw [Array.getElem?_eq_none h] at hg; exact absurd hg (by simp)
      subst hn
      have hne' : B ≠ g0 := hne _ rfl
      have hO' : w.ownsRow base 62 2 (.slice (some ⟨g0, 0, none⟩) l.length c) l.length ((Go.Sort.flatK enc 2 l.toArray).toList.map id) := by rw [List.map_id, flatK_list enc 2 hk]; exact hO
      have hH : Go.Sort.HoldsK enc 2 w g0 0 l.toArray := holds_own (size := 2) (by simp) hO'
      have hless : LessReadsK Tryz.prog g #[.pointer (some ⟨B, 0, none⟩)] enc 2 (ltN nm) g0 0 l.toArray.size w := by
        intro m os dk hs i j hi hj
        have e : sortWorldK enc 2 w g0 0 m dk os = Go.Sort.putRowK enc 2 (Go.Sort.grow (Go.Sort.ahead w m) os) g0 0 dk := by
          unfold sortWorldK; rw [Go.Sort.putRowK_grow enc 2 (Go.Sort.ahead w m) _ g0 0 _ hgs]
        have hHg : Go.Sort.HoldsK enc 2 (Go.Sort.grow (Go.Sort.ahead w m) os) g0 0 l.toArray := Go.Sort.holdsK_grow enc 2 _ _ g0 0 l.toArray hgs (Go.Sort.holdsK_ahead enc 2 _ _ _ _ _ hH)
        refine hL g0 c B l.toArray.size _ (fun t => nm dk[t]!) ?_ (fun t ht => ?_) i j hi hj
        · rw [e, Go.Sort.cell?_putRowK_other enc 2 _ g0 0 dk _ hne', Go.Sort.cell?_grow _ _ _ hB.1]
          have := hB.2.1 0
          simpa using this
        · rw [e]
          have := ((Go.Sort.holdsK_putRowK enc 2 _ g0 0 l.toArray dk hHg hs).cell (i := t) (c := 0) (by omega) (by decide)).1
          rw [Nat.zero_add, Nat.add_zero] at this
          rw [this, ← hnm, getElem!_pos _ 0 (by rw [hk]; decide), ← List.getElem?_eq_getElem]
      have hS := Any.sort_Slice_cells_sorted sl6k 24 62 iSlS iSlE (by kernel_rfl) (by kernel_rfl) (by kernel_rfl) (by kernel_rfl) 25 (fun _ => by kernel_rfl) enc 2 hk (by kernel_rfl) (fun _ => by kernel_rfl) h1 (ltN nm) (swo_ltN nm) g _
        eg g0 0 c l.toArray (by simpa using h2) (by simp; omega) 128 (by rw [iSlk _ (by simpa using h2)]; kernel_rfl) false
        (fun args W => run_callFunc_extern Tryz.func128 (by kernel_rfl) (by kernel_rfl) (by kernel_rfl) (e := Extern.ReflectliteSwapper.swap false) (by kernel_rfl) args W) _ hless hH hgs
      change Calls Tryz.prog 92 _ _ _ at hS
      rw [show l.toArray.size = l.length by simp] at hS
      refine hS.mono ?_
      rintro e w' ⟨rfl, d', q, os, hp, hso, rfl⟩
      obtain ⟨p1, p2⟩ := sorted_list (by simpa using hp) (by simpa using hso)
      have hz : d'.toList.length = l.length := p1.length_eq
      have hz' : d'.size = l.length := by simpa using hz
      have hsz := (below_putRow (enc := id) (w := w) (g := g0) (q := q) (off := 0) (d := Go.Sort.flatK enc 2 d') (os := os) (Nat.zero_le _) (Nat.zero_le _)).size
      have HBX : ∀ b l, b ≠ g0 → BoxIs w b l → BoxIs (Go.Sort.grow (Go.Sort.putRowK enc 2 (Go.Sort.ahead w q) g0 0 d') os) b l := by
        intro b l hb hl
        refine ⟨Nat.lt_of_lt_of_le hl.1 hsz, fun j => ?_, fun j => ?_⟩
        · rw [Go.Sort.cell?_grow _ _ _ (by have := hl.1; simpa [Go.Sort.putRowK] using this), Go.Sort.cell?_putRowK_other enc 2 _ g0 0 d' _ hb]
          exact hl.2.1 j
        · have := hl.2.2 j
          rw [Go.Sort.frozen?_grow _ _ _ (by have := hl.1; simpa [Go.Sort.putRowK] using this)]
          unfold Go.Sort.putRowK
          rw [Go.Sort.frozen?_putRow]
          exact this
      refine ⟨rfl, d'.toList, p1, p2, ?_, HBX B _ hne' hB, fun K h1 h2 => below_putRow (by omega) h2, fun b l _ hl hb => HBX b l (hb _ rfl) hl, fun k hk' hne2 => ?_⟩
      · have := own_putRow (enc := id) (q := q) (os := os) (d := Go.Sort.flatK enc 2 d') (size := 2) hO (by rw [Go.Sort.size_flatK, hz'])
        rw [List.map_id, flatK_list enc 2 hk] at this
        exact this
      · show ((w.heap.modify g0 _) ++ os)[k]? = _
        rw [Array.getElem?_append_left (by simpa using hk'), Array.getElem?_modify, if_neg (fun h => hne2 _ rfl h.symm)]
  · have hS := Any.sort_Slice_tiny sl6k 24 62 iSlS iSlE (by kernel_rfl) (by kernel_rfl) (by kernel_rfl) (by kernel_rfl) 25 (fun _ => by kernel_rfl) a n c (by omega) (120 + n) (by
      rw [iSlo n (by omega)]
      rcases Nat.eq_zero_or_pos n with h | h
      · subst h; kernel_rfl
      · obtain rfl : n = 1 := by omega
        kernel_rfl) (.func g) #[] #[.pointer (some ⟨B, 0, none⟩)] w
    change Calls Tryz.prog 92 _ _ _ at hS
    refine hS.mono ?_
    rintro e w' ⟨rfl, os, rfl⟩
    have hb : Below w.heap.size w (Go.Sort.grow w os) := below_grow
    refine ⟨rfl, l, List.Perm.refl _, ?_, own_below hO hb, hB.below hb, fun K h1 h2 => hb.mono h2, fun b l _ hl _ => hl.below hb, fun k hk' _ => hb.block k hk'⟩
    match l, hn with
    | [], _ => exact List.Pairwise.nil
    | [x], _ => exact List.pairwise_singleton _ _
    | x :: y :: r, hn => simp at hn; omega
end Go.Proofs.YtcgbdhbdlnimhaaGreat
