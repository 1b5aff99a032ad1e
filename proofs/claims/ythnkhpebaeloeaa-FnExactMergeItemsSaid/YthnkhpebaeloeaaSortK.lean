/- SortK: sort.Slice by names, at rows of structures that the call owns. -/
import Derived.Test.YthnkhpebaeloeaaSortW
import Derived.Test.YthnkhpebaeloeaaLess
import Derived.Test.YthnkhpebaeloeaaApp
import Derived.Shelf.SlSortFuncK.WholeK
import Derived.Shelf.GgSortFunc.Tiny
import Derived.Sort.Walk0
import Derived.Ground.GgsProg
namespace Go.Proofs.Ythnkhpebaeloeaa
open Go.ChangeShapes Go.WideShapes Go.ChangeAt Go.RowKit Go.Lib Go.Shelf

def sl6k_ren : Go.Shelf.Ren := ⟨fun | 6 => 52 | 10 => 106 | 11 => 107 | 12 => 108 | 13 => 109 | 14 => 110 | 24 => 138 | 25 => 139 | 26 => 140 | 27 => 141 | 28 => 142 | 29 => 143 | 30 => 144 | 31 => 145 | 32 => 146 | 33 => 147 | 34 => 155 | 35 => 156 | 36 => 157 | 37 => 158 | 38 => 159 | 39 => 163 | n => n, fun | 20 => 20 | 26 => 77 | 35 => 118 | 0 => 0 | 37 => 120 | 3 => 3 | 41 => 124 | 44 => 127 | 49 => 142 | 51 => 144 | 4 => 4 | 54 => 147 | 53 => 146 | 58 => 151 | 5 => 5 | 9 => 9 | 60 => 154 | 64 => 158 | 66 => 161 | 67 => 162 | 17 => 17 | 32 => 115 | 33 => 116 | 82 => 177 | 12 => 12 | 75 => 170 | 76 => 171 | 77 => 172 | 78 => 173 | 79 => 174 | 80 => 175 | n => n, fun | n => n⟩
theorem sl6k : Go.Proofs.LaysGg.n6 Try.prog sl6k_ren := {
  mixed := by kernel_rfl
  f6 := Try.func52.trans (congrArg some (by kernel_rfl))
  f10 := Try.func106.trans (congrArg some (by kernel_rfl))
  f11 := Try.func107.trans (congrArg some (by kernel_rfl))
  f12 := Try.func108.trans (congrArg some (by kernel_rfl))
  f13 := Try.func109.trans (congrArg some (by kernel_rfl))
  f14 := Try.func110.trans (congrArg some (by kernel_rfl))
  f24 := Try.func138.trans (congrArg some (by kernel_rfl))
  f25 := Try.func139.trans (congrArg some (by kernel_rfl))
  f26 := Try.func140.trans (congrArg some (by kernel_rfl))
  f27 := Try.func141.trans (congrArg some (by kernel_rfl))
  f28 := Try.func142.trans (congrArg some (by kernel_rfl))
  f29 := Try.func143.trans (congrArg some (by kernel_rfl))
  f30 := Try.func144.trans (congrArg some (by kernel_rfl))
  f31 := Try.func145.trans (congrArg some (by kernel_rfl))
  f32 := Try.func146.trans (congrArg some (by kernel_rfl))
  f33 := Try.func147.trans (congrArg some (by kernel_rfl))
  f34 := Try.func155.trans (congrArg some (by kernel_rfl))
  f35 := Try.func156.trans (congrArg some (by kernel_rfl))
  f36 := Try.func157.trans (congrArg some (by kernel_rfl))
  f37 := Try.func158.trans (congrArg some (by kernel_rfl))
  f38 := Try.func159.trans (congrArg some (by kernel_rfl))
  f39 := Try.func163.trans (congrArg some (by kernel_rfl))
  t0 := Try.underlying0
  a0 := Try.isAgg0
  z0 := Try.sizeOf0
  v0 := Try.zeroValue0
  i0 := by kernel_rfl
  t3 := Try.underlying3
  a3 := Try.isAgg3
  z3 := Try.sizeOf3
  v3 := Try.zeroValue3
  i3 := by kernel_rfl
  t4 := Try.underlying4
  a4 := Try.isAgg4
  z4 := Try.sizeOf4
  v4 := Try.zeroValue4
  i4 := by kernel_rfl
  t5 := Try.underlying5
  a5 := Try.isAgg5
  z5 := Try.sizeOf5
  v5 := Try.zeroValue5
  i5 := by kernel_rfl
  t9 := Try.underlying9
  a9 := Try.isAgg9
  z9 := Try.sizeOf9
  v9 := Try.zeroValue9
  i9 := by kernel_rfl
  t12 := Try.underlying12
  a12 := Try.isAgg12
  z12 := Try.sizeOf12
  v12 := Try.zeroValue12
  i12 := by kernel_rfl
  t17 := Try.underlying17
  a17 := Try.isAgg17
  z17 := Try.sizeOf17
  v17 := Try.zeroValue17
  i17 := by kernel_rfl
  t20 := Try.underlying20
  a20 := Try.isAgg20
  z20 := Try.sizeOf20
  v20 := Try.zeroValue20
  i20 := by kernel_rfl
  t26 := Try.underlying77
  a26 := Try.isAgg77
  z26 := Try.sizeOf77
  v26 := Try.zeroValue77
  i26 := by kernel_rfl
  t32 := Try.underlying115
  a32 := Try.isAgg115
  z32 := Try.sizeOf115
  v32 := Try.zeroValue115
  i32 := by kernel_rfl
  t33 := Try.underlying116
  a33 := Try.isAgg116
  z33 := Try.sizeOf116
  v33 := Try.zeroValue116
  i33 := by kernel_rfl
  t35 := Try.underlying118
  a35 := Try.isAgg118
  z35 := Try.sizeOf118
  v35 := Try.zeroValue118
  i35 := by kernel_rfl
  t37 := Try.underlying120
  a37 := Try.isAgg120
  z37 := Try.sizeOf120
  v37 := Try.zeroValue120
  i37 := by kernel_rfl
  t41 := Try.underlying124
  a41 := Try.isAgg124
  z41 := Try.sizeOf124
  v41 := Try.zeroValue124
  i41 := by kernel_rfl
  t44 := Try.underlying127
  a44 := Try.isAgg127
  z44 := Try.sizeOf127
  v44 := Try.zeroValue127
  i44 := by kernel_rfl
  t49 := Try.underlying142
  a49 := Try.isAgg142
  z49 := Try.sizeOf142
  v49 := Try.zeroValue142
  i49 := by kernel_rfl
  t51 := Try.underlying144
  a51 := Try.isAgg144
  z51 := Try.sizeOf144
  v51 := Try.zeroValue144
  i51 := by kernel_rfl
  t53 := Try.underlying146
  a53 := Try.isAgg146
  z53 := Try.sizeOf146
  v53 := Try.zeroValue146
  i53 := by kernel_rfl
  t54 := Try.underlying147
  a54 := Try.isAgg147
  z54 := Try.sizeOf147
  v54 := Try.zeroValue147
  i54 := by kernel_rfl
  t58 := Try.underlying151
  a58 := Try.isAgg151
  z58 := Try.sizeOf151
  v58 := Try.zeroValue151
  i58 := by kernel_rfl
  t60 := Try.underlying154
  a60 := Try.isAgg154
  z60 := Try.sizeOf154
  v60 := Try.zeroValue154
  i60 := by kernel_rfl
  t64 := Try.underlying158
  a64 := Try.isAgg158
  z64 := Try.sizeOf158
  v64 := Try.zeroValue158
  i64 := by kernel_rfl
  t66 := Try.underlying161
  a66 := Try.isAgg161
  z66 := Try.sizeOf161
  v66 := Try.zeroValue161
  i66 := by kernel_rfl
  t67 := Try.underlying162
  a67 := Try.isAgg162
  z67 := Try.sizeOf162
  v67 := Try.zeroValue162
  i67 := by kernel_rfl
  t75 := Try.underlying170
  a75 := Try.isAgg170
  z75 := Try.sizeOf170
  v75 := Try.zeroValue170
  i75 := by kernel_rfl
  t76 := Try.underlying171
  a76 := Try.isAgg171
  z76 := Try.sizeOf171
  v76 := Try.zeroValue171
  i76 := by kernel_rfl
  t77 := Try.underlying172
  a77 := Try.isAgg172
  z77 := Try.sizeOf172
  v77 := Try.zeroValue172
  i77 := by kernel_rfl
  t78 := Try.underlying173
  a78 := Try.isAgg173
  z78 := Try.sizeOf173
  v78 := Try.zeroValue173
  i78 := by kernel_rfl
  t79 := Try.underlying174
  a79 := Try.isAgg174
  z79 := Try.sizeOf174
  v79 := Try.zeroValue174
  i79 := by kernel_rfl
  t80 := Try.underlying175
  a80 := Try.isAgg175
  z80 := Try.sizeOf175
  v80 := Try.zeroValue175
  i80 := by kernel_rfl
  t82 := Try.underlying177
  a82 := Try.isAgg177
  z82 := Try.sizeOf177
  v82 := Try.zeroValue177
  i82 := by kernel_rfl }

theorem lessB_eq (a b : ByteArray) : lessB a b = Go.Sort.ltStr a.toList b.toList := Go.Proofs.bytesLess_eq _ _
def ltN {β : Type} (nm : β → ByteArray) (x y : β) : Bool := lessB (nm x) (nm y)
theorem swo_ltN {β : Type} (nm : β → ByteArray) : Go.Sort.SWO (ltN nm) where
  irrefl x := by unfold ltN; rw [lessB_eq]; exact Go.Sort.swo_ltStr.irrefl _
  trans x y z h1 h2 := by unfold ltN at *; rw [lessB_eq] at *; exact Go.Sort.swo_ltStr.trans _ _ _ h1 h2
  ntrans x y z h1 h2 := by unfold ltN at *; rw [lessB_eq] at *; exact Go.Sort.swo_ltStr.ntrans _ _ _ h1 h2
theorem lessB_anti {a b : ByteArray} (h1 : lessB a b = false) (h2 : lessB b a = false) : a = b := by
  have h := less_total a.toList b.toList
  unfold lessB at h1 h2
  rw [h1, h2] at h
  have h3 : (a.toList == b.toList) = true := by simpa using h
  rw [beq_bytes] at h3
  exact of_decide_eq_true h3
theorem flatK_list {β : Type} [Inhabited β] (enc : β → List Value) (k : Nat) (hk : ∀ x, (enc x).length = k) (d : Array β) : (Go.Sort.flatK enc k d).toList = d.toList.flatMap enc := by
  refine flat_ext enc k hk d.toList _ (by simp) ?_
  intro i hi j hj
  have hi' : i < d.size := by simpa using hi
  have hlt : i * k + j < d.size * k := by
    have := Nat.mul_le_mul_right k (show i + 1 ≤ d.size from hi'); rw [Nat.add_mul, Nat.one_mul] at this; omega
  have e1 : (i * k + j) / k = i := (Go.Sort.blk_iff k i _ (by omega)).1 ⟨by omega, by omega⟩
  have e2 : (i * k + j) % k = j := by rw [Nat.mul_comm, Nat.mul_add_mod]; exact Nat.mod_eq_of_lt hj
  have hg := Go.Sort.get_flatK enc k d (i * k + j) hlt
  rw [e1, e2] at hg
  have hs : i * k + j < (Go.Sort.flatK enc k d).size := by simpa using hlt
  have hg2 : (Go.Sort.flatK enc k d)[i * k + j]! = (Go.Sort.flatK enc k d)[i * k + j] := getElem!_pos (Go.Sort.flatK enc k d) (i * k + j) hs
  rw [hg2] at hg
  rw [Array.getElem?_toList, Array.getElem?_eq_getElem hs, hg, nth_eq _ _ hi, Array.getElem_toList, getElem!_pos d i hi']
  rw [List.getElem?_eq_getElem (by rw [hk]; exact hj), getElem!_pos _ j (by rw [hk]; exact hj)]
/-- A closure 'func(i, k int) bool { return list[i].Name < list[k].Name }', the name in the first of K cells. -/
def LessN (g K : Nat) : Prop := ∀ (blk c B size : Nat) (W : World) (G : Nat → ByteArray), W.cell? ⟨B, 0, none⟩ = some (.slice (some ⟨blk, 0, none⟩) size c) → (∀ t, t < size → W.cell? ⟨blk, t * K, none⟩ = some (.string (G t))) →
    ∀ i j : Nat, i < size → j < size → Calls Try.prog g #[.int .i64 i, .int .i64 j, .pointer (some ⟨B, 0, none⟩)] W fun e w' => e = .returned (.bool (lessB (G i) (G j))) ∧ ∃ q, w' = W.drewN q

noncomputable def cSlS : TypeInfo := (Try.prog.info? 35).get (by kernel_rfl)
noncomputable def cSlE : TypeInfo := (Try.prog.info? 85).get (by kernel_rfl)
theorem cSlk (n : Nat) (h2 : 2 ≤ n) : Lib.swapperK n cSlE 25 = 9 := by
  have a : cSlE.hasPointers = true := by kernel_rfl
  have b : (cSlE.bytes == 8) = false := by kernel_rfl
  have c : (n == 0) = false := by simp; omega
  have d : (n == 1) = false := by simp; omega
  simp [Lib.swapperK, a, b, c, d]
theorem cSlo (n : Nat) (h2 : n ≤ 1) : Lib.swapperK n cSlE 25 = n + 1 := by
  rcases Nat.eq_zero_or_pos n with h | h
  · subst h; simp [Lib.swapperK]
  · obtain rfl : n = 1 := by omega
    simp [Lib.swapperK]
set_option maxHeartbeats 2000000 in
theorem sortCards_c {β : Type} [Inhabited β] (enc : β → List Value) (hk : ∀ x, (enc x).length = 3) (h1 : ∀ x, ∀ v ∈ enc x, v.oneCell' = true) (nm : β → ByteArray) (hnm : ∀ x, (enc x)[0]? = some (.string (nm x)))
    (g : Nat) (eg : ∀ args w, (callFunc g args).run Try.prog w = .ok (.enter g args) w) (hL : LessN g 3) (a : Option Addr) (n c B base : Nat) (l : List β) (w : World)
    (hO : w.ownsRow base 85 3 (.slice a n c) n (l.flatMap enc)) (hn : n = l.length) (hB : BoxIs w B [.slice a n c]) (hne : ∀ x, a = some x → B ≠ x.block) (hl : l.length ≤ 1000000) :
    Calls Try.prog 52 #[.iface 35 (.slice a n c), .func (.func g) #[] #[.pointer (some ⟨B, 0, none⟩)]] w fun e w' => e = .returned (.tuple #[]) ∧ ∃ l' : List β, l'.Perm l ∧ Asc (ltN nm) l' ∧ w'.ownsRow base 85 3 (.slice a n c) n (l'.flatMap enc) ∧ BoxIs w' B [.slice a n c] ∧ (∀ C, C ≤ base → C ≤ w.heap.size → Below C w w') ∧ (∀ b l, b ≠ B → BoxIs w b l → (∀ x, a = some x → b ≠ x.block) → BoxIs w' b l) ∧ (∀ k, k < w.heap.size → (∀ x, a = some x → k ≠ x.block) → w'.heap[k]? = w.heap[k]?) := by
  by_cases h2 : 2 ≤ n
  · rcases hO.2 with ⟨h0, h1'⟩ | ⟨g0, cap, cur, hv, hbg, hg, _⟩
    · omega
    · obtain ⟨rfl, rfl⟩ : a = some ⟨g0, 0, none⟩ ∧ c = cap := by injection hv with h1 h2 h3; exact ⟨h1, h3⟩
      have hgs : g0 < w.heap.size := by
        rcases Nat.lt_or_ge g0 w.heap.size with h | h
        · exact h
        · rw [Array.getElem?_eq_none h] at hg; exact absurd hg (by simp)
      subst hn
      have hne' : B ≠ g0 := hne _ rfl
      have hO' : w.ownsRow base 85 3 (.slice (some ⟨g0, 0, none⟩) l.length c) l.length ((Go.Sort.flatK enc 3 l.toArray).toList.map id) := by rw [List.map_id, flatK_list enc 3 hk]; exact hO
      have hH : Go.Sort.HoldsK enc 3 w g0 0 l.toArray := holds_own (size := 3) (by simp) hO'
      have hless : LessReadsK Try.prog g #[.pointer (some ⟨B, 0, none⟩)] enc 3 (ltN nm) g0 0 l.toArray.size w := by
        intro m os dk hs i j hi hj
        have e : sortWorldK enc 3 w g0 0 m dk os = Go.Sort.putRowK enc 3 (Go.Sort.grow (Go.Sort.ahead w m) os) g0 0 dk := by
          unfold sortWorldK; rw [Go.Sort.putRowK_grow enc 3 (Go.Sort.ahead w m) _ g0 0 _ hgs]
        have hHg : Go.Sort.HoldsK enc 3 (Go.Sort.grow (Go.Sort.ahead w m) os) g0 0 l.toArray := Go.Sort.holdsK_grow enc 3 _ _ g0 0 l.toArray hgs (Go.Sort.holdsK_ahead enc 3 _ _ _ _ _ hH)
        refine hL g0 c B l.toArray.size _ (fun t => nm dk[t]!) ?_ (fun t ht => ?_) i j hi hj
        · rw [e, Go.Sort.cell?_putRowK_other enc 3 _ g0 0 dk _ hne', Go.Sort.cell?_grow _ _ _ hB.1]
          have := hB.2.1 0
          simpa using this
        · rw [e]
          have := ((Go.Sort.holdsK_putRowK enc 3 _ g0 0 l.toArray dk hHg hs).cell (i := t) (c := 0) (by omega) (by decide)).1
          rw [Nat.zero_add, Nat.add_zero] at this
          rw [this, ← hnm, getElem!_pos _ 0 (by rw [hk]; decide), ← List.getElem?_eq_getElem]
      have hS := Any.sort_Slice_cells_sorted sl6k 35 85 cSlS cSlE (by kernel_rfl) (by kernel_rfl) (by kernel_rfl) (by kernel_rfl) 25 (fun _ => by kernel_rfl) enc 3 hk (by kernel_rfl) (fun _ => by kernel_rfl) h1 (ltN nm) (swo_ltN nm) g _
        eg g0 0 c l.toArray (by simpa using h2) (by simp; omega) 137 (by rw [cSlk _ (by simpa using h2)]; kernel_rfl) false
        (fun args W => run_callFunc_extern Try.func137 (by kernel_rfl) (by kernel_rfl) (by kernel_rfl) (e := Extern.ReflectliteSwapper.swap false) (by kernel_rfl) args W) _ hless hH hgs
      change Calls Try.prog 52 _ _ _ at hS
      rw [show l.toArray.size = l.length by simp] at hS
      refine hS.mono ?_
      rintro e w' ⟨rfl, d', q, os, hp, hso, rfl⟩
      obtain ⟨p1, p2⟩ := sorted_list (by simpa using hp) (by simpa using hso)
      have hz : d'.toList.length = l.length := p1.length_eq
      have hz' : d'.size = l.length := by simpa using hz
      have hsz := (below_putRow (enc := id) (w := w) (g := g0) (q := q) (off := 0) (d := Go.Sort.flatK enc 3 d') (os := os) (Nat.zero_le _) (Nat.zero_le _)).size
      have HBX : ∀ b l, b ≠ g0 → BoxIs w b l → BoxIs (Go.Sort.grow (Go.Sort.putRowK enc 3 (Go.Sort.ahead w q) g0 0 d') os) b l := by
        intro b l hb hl
        refine ⟨Nat.lt_of_lt_of_le hl.1 hsz, fun j => ?_, fun j => ?_⟩
        · rw [Go.Sort.cell?_grow _ _ _ (by have := hl.1; simpa [Go.Sort.putRowK] using this), Go.Sort.cell?_putRowK_other enc 3 _ g0 0 d' _ hb]
          exact hl.2.1 j
        · have := hl.2.2 j
          rw [Go.Sort.frozen?_grow _ _ _ (by have := hl.1; simpa [Go.Sort.putRowK] using this)]
          unfold Go.Sort.putRowK
          rw [Go.Sort.frozen?_putRow]
          exact this
      refine ⟨rfl, d'.toList, p1, p2, ?_, HBX B _ hne' hB, fun K h1 h2 => below_putRow (by omega) h2, fun b l _ hl hb => HBX b l (hb _ rfl) hl, fun k hk' hne2 => ?_⟩
      · have := own_putRow (enc := id) (q := q) (os := os) (d := Go.Sort.flatK enc 3 d') (size := 3) hO (by rw [Go.Sort.size_flatK, hz'])
        rw [List.map_id, flatK_list enc 3 hk] at this
        exact this
      · show ((w.heap.modify g0 _) ++ os)[k]? = _
        rw [Array.getElem?_append_left (by simpa using hk'), Array.getElem?_modify, if_neg (fun h => hne2 _ rfl h.symm)]
  · have hS := Any.sort_Slice_tiny sl6k 35 85 cSlS cSlE (by kernel_rfl) (by kernel_rfl) (by kernel_rfl) (by kernel_rfl) 25 (fun _ => by kernel_rfl) a n c (by omega) (129 + n) (by
      rw [cSlo n (by omega)]
      rcases Nat.eq_zero_or_pos n with h | h
      · subst h; kernel_rfl
      · obtain rfl : n = 1 := by omega
        kernel_rfl) (.func g) #[] #[.pointer (some ⟨B, 0, none⟩)] w
    change Calls Try.prog 52 _ _ _ at hS
    refine hS.mono ?_
    rintro e w' ⟨rfl, os, rfl⟩
    have hb : Below w.heap.size w (Go.Sort.grow w os) := below_grow
    refine ⟨rfl, l, List.Perm.refl _, ?_, own_below hO hb, hB.below hb, fun K h1 h2 => hb.mono h2, fun b l _ hl _ => hl.below hb, fun k hk' _ => hb.block k hk'⟩
    match l, hn with
    | [], _ => exact List.Pairwise.nil
    | [x], _ => exact List.pairwise_singleton _ _
    | x :: y :: r, hn => simp at hn; omega
noncomputable def iSlS : TypeInfo := (Try.prog.info? 45).get (by kernel_rfl)
noncomputable def iSlE : TypeInfo := (Try.prog.info? 93).get (by kernel_rfl)
theorem iSlk (n : Nat) (h2 : 2 ≤ n) : Lib.swapperK n iSlE 25 = 9 := by
  have a : iSlE.hasPointers = true := by kernel_rfl
  have b : (iSlE.bytes == 8) = false := by kernel_rfl
  have c : (n == 0) = false := by simp; omega
  have d : (n == 1) = false := by simp; omega
  simp [Lib.swapperK, a, b, c, d]
theorem iSlo (n : Nat) (h2 : n ≤ 1) : Lib.swapperK n iSlE 25 = n + 1 := by
  rcases Nat.eq_zero_or_pos n with h | h
  · subst h; simp [Lib.swapperK]
  · obtain rfl : n = 1 := by omega
    simp [Lib.swapperK]
set_option maxHeartbeats 2000000 in
theorem sortItems_k {β : Type} [Inhabited β] (enc : β → List Value) (hk : ∀ x, (enc x).length = 2) (h1 : ∀ x, ∀ v ∈ enc x, v.oneCell' = true) (nm : β → ByteArray) (hnm : ∀ x, (enc x)[0]? = some (.string (nm x)))
    (g : Nat) (eg : ∀ args w, (callFunc g args).run Try.prog w = .ok (.enter g args) w) (hL : LessN g 2) (a : Option Addr) (n c B base : Nat) (l : List β) (w : World)
    (hO : w.ownsRow base 93 2 (.slice a n c) n (l.flatMap enc)) (hn : n = l.length) (hB : BoxIs w B [.slice a n c]) (hne : ∀ x, a = some x → B ≠ x.block) (hl : l.length ≤ 1000000) :
    Calls Try.prog 52 #[.iface 45 (.slice a n c), .func (.func g) #[] #[.pointer (some ⟨B, 0, none⟩)]] w fun e w' => e = .returned (.tuple #[]) ∧ ∃ l' : List β, l'.Perm l ∧ Asc (ltN nm) l' ∧ w'.ownsRow base 93 2 (.slice a n c) n (l'.flatMap enc) ∧ BoxIs w' B [.slice a n c] ∧ (∀ C, C ≤ base → C ≤ w.heap.size → Below C w w') ∧ (∀ b l, b ≠ B → BoxIs w b l → (∀ x, a = some x → b ≠ x.block) → BoxIs w' b l) ∧ (∀ k, k < w.heap.size → (∀ x, a = some x → k ≠ x.block) → w'.heap[k]? = w.heap[k]?) := by
  by_cases h2 : 2 ≤ n
  · rcases hO.2 with ⟨h0, h1'⟩ | ⟨g0, cap, cur, hv, hbg, hg, _⟩
    · omega
    · obtain ⟨rfl, rfl⟩ : a = some ⟨g0, 0, none⟩ ∧ c = cap := by injection hv with h1 h2 h3; exact ⟨h1, h3⟩
      have hgs : g0 < w.heap.size := by
        rcases Nat.lt_or_ge g0 w.heap.size with h | h
        · exact h
        · rw [Array.getElem?_eq_none h] at hg; exact absurd hg (by simp)
      subst hn
      have hne' : B ≠ g0 := hne _ rfl
      have hO' : w.ownsRow base 93 2 (.slice (some ⟨g0, 0, none⟩) l.length c) l.length ((Go.Sort.flatK enc 2 l.toArray).toList.map id) := by rw [List.map_id, flatK_list enc 2 hk]; exact hO
      have hH : Go.Sort.HoldsK enc 2 w g0 0 l.toArray := holds_own (size := 2) (by simp) hO'
      have hless : LessReadsK Try.prog g #[.pointer (some ⟨B, 0, none⟩)] enc 2 (ltN nm) g0 0 l.toArray.size w := by
        intro m os dk hs i j hi hj
        have e : sortWorldK enc 2 w g0 0 m dk os = Go.Sort.putRowK enc 2 (Go.Sort.grow (Go.Sort.ahead w m) os) g0 0 dk := by
          unfold sortWorldK; rw [Go.Sort.putRowK_grow enc 2 (Go.Sort.ahead w m) _ g0 0 _ hgs]
        have hHg : Go.Sort.HoldsK enc 2 (Go.Sort.grow (Go.Sort.ahead w m) os) g0 0 l.toArray := Go.Sort.holdsK_grow enc 2 _ _ g0 0 l.toArray hgs (Go.Sort.holdsK_ahead enc 2 _ _ _ _ _ hH)
        refine hL g0 c B l.toArray.size _ (fun t => nm dk[t]!) ?_ (fun t ht => ?_) i j hi hj
        · rw [e, Go.Sort.cell?_putRowK_other enc 2 _ g0 0 dk _ hne', Go.Sort.cell?_grow _ _ _ hB.1]
          have := hB.2.1 0
          simpa using this
        · rw [e]
          have := ((Go.Sort.holdsK_putRowK enc 2 _ g0 0 l.toArray dk hHg hs).cell (i := t) (c := 0) (by omega) (by decide)).1
          rw [Nat.zero_add, Nat.add_zero] at this
          rw [this, ← hnm, getElem!_pos _ 0 (by rw [hk]; decide), ← List.getElem?_eq_getElem]
      have hS := Any.sort_Slice_cells_sorted sl6k 45 93 iSlS iSlE (by kernel_rfl) (by kernel_rfl) (by kernel_rfl) (by kernel_rfl) 25 (fun _ => by kernel_rfl) enc 2 hk (by kernel_rfl) (fun _ => by kernel_rfl) h1 (ltN nm) (swo_ltN nm) g _
        eg g0 0 c l.toArray (by simpa using h2) (by simp; omega) 137 (by rw [iSlk _ (by simpa using h2)]; kernel_rfl) false
        (fun args W => run_callFunc_extern Try.func137 (by kernel_rfl) (by kernel_rfl) (by kernel_rfl) (e := Extern.ReflectliteSwapper.swap false) (by kernel_rfl) args W) _ hless hH hgs
      change Calls Try.prog 52 _ _ _ at hS
      rw [show l.toArray.size = l.length by simp] at hS
      refine hS.mono ?_
      rintro e w' ⟨rfl, d', q, os, hp, hso, rfl⟩
      obtain ⟨p1, p2⟩ := sorted_list (by simpa using hp) (by simpa using hso)
      have hz : d'.toList.length = l.length := p1.length_eq
      have hz' : d'.size = l.length := by simpa using hz
      have hsz := (below_putRow (enc := id) (w := w) (g := g0) (q := q) (off := 0) (d := Go.Sort.flatK enc 2 d') (os := os) (Nat.zero_le _) (Nat.zero_le _)).size
      have HBX : ∀ b l, b ≠ g0 → BoxIs w b l → BoxIs (Go.Sort.grow (Go.Sort.putRowK enc 2 (Go.Sort.ahead w q) g0 0 d') os) b l := by
        intro b l hb hl
        refine ⟨Nat.lt_of_lt_of_le hl.1 hsz, fun j => ?_, fun j => ?_⟩
        · rw [Go.Sort.cell?_grow _ _ _ (by have := hl.1; simpa [Go.Sort.putRowK] using this), Go.Sort.cell?_putRowK_other enc 2 _ g0 0 d' _ hb]
          exact hl.2.1 j
        · have := hl.2.2 j
          rw [Go.Sort.frozen?_grow _ _ _ (by have := hl.1; simpa [Go.Sort.putRowK] using this)]
          unfold Go.Sort.putRowK
          rw [Go.Sort.frozen?_putRow]
          exact this
      refine ⟨rfl, d'.toList, p1, p2, ?_, HBX B _ hne' hB, fun K h1 h2 => below_putRow (by omega) h2, fun b l _ hl hb => HBX b l (hb _ rfl) hl, fun k hk' hne2 => ?_⟩
      · have := own_putRow (enc := id) (q := q) (os := os) (d := Go.Sort.flatK enc 2 d') (size := 2) hO (by rw [Go.Sort.size_flatK, hz'])
        rw [List.map_id, flatK_list enc 2 hk] at this
        exact this
      · show ((w.heap.modify g0 _) ++ os)[k]? = _
        rw [Array.getElem?_append_left (by simpa using hk'), Array.getElem?_modify, if_neg (fun h => hne2 _ rfl h.symm)]
  · have hS := Any.sort_Slice_tiny sl6k 45 93 iSlS iSlE (by kernel_rfl) (by kernel_rfl) (by kernel_rfl) (by kernel_rfl) 25 (fun _ => by kernel_rfl) a n c (by omega) (129 + n) (by
      rw [iSlo n (by omega)]
      rcases Nat.eq_zero_or_pos n with h | h
      · subst h; kernel_rfl
      · obtain rfl : n = 1 := by omega
        kernel_rfl) (.func g) #[] #[.pointer (some ⟨B, 0, none⟩)] w
    change Calls Try.prog 52 _ _ _ at hS
    refine hS.mono ?_
    rintro e w' ⟨rfl, os, rfl⟩
    have hb : Below w.heap.size w (Go.Sort.grow w os) := below_grow
    refine ⟨rfl, l, List.Perm.refl _, ?_, own_below hO hb, hB.below hb, fun K h1 h2 => hb.mono h2, fun b l _ hl _ => hl.below hb, fun k hk' _ => hb.block k hk'⟩
    match l, hn with
    | [], _ => exact List.Pairwise.nil
    | [x], _ => exact List.pairwise_singleton _ _
    | x :: y :: r, hn => simp at hn; omega
end Go.Proofs.Ythnkhpebaeloeaa
