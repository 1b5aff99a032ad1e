import Derived.Test.YtcgbdhbdlnimhaaGreatMg24
import Derived.Test.YtcgbdhbdlnimhaaGreatMg16
import Derived.Deep.RegionHeld3
/- ItemsFn: finding an item, copying items, by both packages. -/
namespace Go.Proofs.YtcgbdhbdlnimhaaGreat
open Go.ChangeShapes Go.WideShapes Go.ChangeAt Go.RowKit

def findI (f : Item → Bool) (l : List Item) : Int := match l.findIdx? f with
  | some i => i
  | none => -1
theorem findI_hit {f : Item → Bool} {l : List Item} {k : Nat} (h : ∀ j, j < k → f (nth l j) = false) (hk : k < l.length) (hf : f (nth l k) = true) : findI f l = k := by
  have : l.findIdx? f = some k := by
    rw [List.findIdx?_eq_some_iff_getElem]
    refine ⟨hk, by rw [← nth_eq l k hk]; exact hf, fun j hj => ?_⟩
    rw [← nth_eq l j (by omega), h j hj]; simp
  unfold findI; rw [this]
theorem findI_none {f : Item → Bool} {l : List Item} (h : ∀ j, j < l.length → f (nth l j) = false) : findI f l = -1 := by
  have : l.findIdx? f = none := by
    rw [List.findIdx?_eq_none_iff]
    intro x hx
    obtain ⟨i, hi, rfl⟩ := List.getElem_of_mem hx
    rw [← nth_eq l i hi]; exact h i hi
  unfold findI; rw [this]
theorem findI_cases (f : Item → Bool) (l : List Item) : findI f l = -1 ∨ ∃ k : Nat, findI f l = (k : Int) ∧ k < l.length ∧ f (nth l k) = true ∧ ∀ j, j < k → f (nth l j) = false := by
  cases h : l.findIdx? f with
  | none => left; unfold findI; rw [h]
  | some k =>
    right
    rw [List.findIdx?_eq_some_iff_getElem] at h
    obtain ⟨hk, h1, h2⟩ := h
    have h3 : ∀ j, j < k → f (nth l j) = false := fun j hj => by rw [nth_eq l j (by omega)]; simpa using h2 j hj
    exact ⟨k, findI_hit h3 hk (by rw [nth_eq l k hk]; exact h1), hk, by rw [nth_eq l k hk]; exact h1, h3⟩
def isNm (s : ByteArray) (x : Item) : Bool := decide (x.name = s)
def isPt (p : List Int) (x : Item) : Bool := same2 eqI x.pattern p

set_option maxHeartbeats 1000000 in
theorem l22Find_c (v : Value) (l : List Item) (s : ByteArray) (w : World) (hv : ItemsAt w v l) :
    Calls Tryz.prog 59 #[v, .string s] w (Gives (.int .i64 (findI (isNm s) l)) w) := by
  obtain ⟨a, n, cap, rfl, hn, hl, hm, hc⟩ := hv
  have Hc := Lib.hid hc; clear hc
  have Hn := Lib.hid hn; clear hn
  go_enter Tryz.func59, Tryz.ntmps59
  go_wp2
  go_loopw [5] (fun i wr => ∃ k : Nat, i = .int .i64 k ∧ k ≤ n ∧ Hid (∀ j, j < k → isNm s (nth l j) = false) ∧ Below w.heap.size w wr) (fun i _ => n - (intOf i).toNat)
  case atStart => exact ⟨0, rfl, Nat.zero_le _, Lib.hid (fun j hj => absurd hj (Nat.not_lt_zero _)), Below.refl _ _⟩
  case round =>
    obtain ⟨k, rfl, hk, HS, hb⟩ := hrel
    by_cases hlt : k < n
    · have Hkl : Hid (k < l.length) := Lib.hid (by rw [← Hn.out]; exact hlt)
      obtain ⟨b, o, pa, pn, pc, rfl, hbs, hsz, hp, c0, c1⟩ := item_cells (Hc.out.below hb) k Hkl.out
      clear hp
      have m2 := beq_bytes (nth l k).name s
      have HD : Hid (isNm s (nth l k) = decide ((nth l k).name = s)) := Lib.hid rfl
      generalize hbd : decide ((nth l k).name = s) = bd at *
      clear hbd
      cases bd
      · go_wp2
        exact ⟨⟨k + 1, by go_num, hlt, Lib.hid (fun j hj => by
          rcases Nat.lt_or_ge j k with h | h
          · exact HS.out j h
          · obtain rfl : j = k := by omega
            exact HD.out), by first | exact hb | exact bthen hb (by go_grown)⟩, by simp [intOf]; omega⟩
      · go_wp2
        go_ret
        exact Gives.int (findI_hit HS.out Hkl.out HD.out) (by first | exact hb | exact bthen hb (by go_grown))
    · obtain rfl : k = n := by omega
      go_wp2
      go_ret
      exact Gives.int (findI_none (by rw [← Hn.out]; exact HS.out)) hb
set_option maxHeartbeats 1000000 in
theorem itemNamed_c (v : Value) (l : List Item) (s : ByteArray) (w : World) (hv : ItemsAt w v l) :
    Calls Tryz.prog 50 #[v, .string s] w (Gives (.int .i64 (findI (isNm s) l)) w) := by
  obtain ⟨a, n, cap, rfl, hn, hl, hm, hc⟩ := hv
  have Hc := Lib.hid hc; clear hc
  have Hn := Lib.hid hn; clear hn
  go_enter Tryz.func50, Tryz.ntmps50
  go_wp2
  go_loopw [9] (fun i wr => ∃ k : Nat, i = .int .i64 k ∧ k ≤ n ∧ Hid (∀ j, j < k → isNm s (nth l j) = false) ∧ Below w.heap.size w wr) (fun i _ => n - (intOf i).toNat)
  case atStart => exact ⟨0, rfl, Nat.zero_le _, Lib.hid (fun j hj => absurd hj (Nat.not_lt_zero _)), Below.refl _ _⟩
  case round =>
    obtain ⟨k, rfl, hk, HS, hb⟩ := hrel
    by_cases hlt : k < n
    · have Hkl : Hid (k < l.length) := Lib.hid (by rw [← Hn.out]; exact hlt)
      obtain ⟨b, o, pa, pn, pc, rfl, hbs, hsz, hp, c0, c1⟩ := item_cells (Hc.out.below hb) k Hkl.out
      clear hp
      have m2 := beq_bytes (nth l k).name s
      have HD : Hid (isNm s (nth l k) = decide ((nth l k).name = s)) := Lib.hid rfl
      generalize hbd : decide ((nth l k).name = s) = bd at *
      clear hbd
      cases bd
      · go_wp2
        exact ⟨⟨k + 1, by go_num, hlt, Lib.hid (fun j hj => by
          rcases Nat.lt_or_ge j k with h | h
          · exact HS.out j h
          · obtain rfl : j = k := by omega
            exact HD.out), by first | exact hb | exact bthen hb (by go_grown)⟩, by simp [intOf]; omega⟩
      · go_wp2
        go_ret
        exact Gives.int (findI_hit HS.out Hkl.out HD.out) (by first | exact hb | exact bthen hb (by go_grown))
    · obtain rfl : k = n := by omega
      go_wp2
      go_ret
      exact Gives.int (findI_none (by rw [← Hn.out]; exact HS.out)) hb
set_option maxHeartbeats 1000000 in
theorem l22Like_c (v u : Value) (l : List Item) (p : List Int) (w : World) (hv : ItemsAt w v l) (hu : IntsAt w u p) :
    Calls Tryz.prog 60 #[v, u] w (Gives (.int .i64 (findI (isPt p) l)) w) := by
  obtain ⟨a, n, cap, rfl, hn, hl, hm, hc⟩ := hv
  have HU := Lib.hid hu
  have Hc := Lib.hid hc; clear hc
  have Hn := Lib.hid hn; clear hn
  obtain ⟨ua, un, uc, rfl, -⟩ := hu
  go_enter Tryz.func60, Tryz.ntmps60
  go_wp2
  go_loopw [5] (fun i wr => ∃ k : Nat, i = .int .i64 k ∧ k ≤ n ∧ Hid (∀ j, j < k → isPt p (nth l j) = false) ∧ Below w.heap.size w wr) (fun i _ => n - (intOf i).toNat)
  case atStart => exact ⟨0, rfl, Nat.zero_le _, Lib.hid (fun j hj => absurd hj (Nat.not_lt_zero _)), Below.refl _ _⟩
  case round =>
    obtain ⟨k, rfl, hk, HS, hb⟩ := hrel
    by_cases hlt : k < n
    · have Hkl : Hid (k < l.length) := Lib.hid (by rw [← Hn.out]; exact hlt)
      obtain ⟨b, o, pa, pn, pc, rfl, hbs, hsz, hp, c0, c1⟩ := item_cells (Hc.out.below hb) k Hkl.out
      have HP := Lib.hid hp; clear hp
      have HD : Hid (isPt p (nth l k) = same2 eqI (nth l k).pattern p) := Lib.hid rfl
      have HQ := Lib.hid (fun W x y => sSame_c (.slice pa pn pc) (.slice ua un uc) (nth l k).pattern p W x y)
      generalize hbd : same2 eqI (nth l k).pattern p = bd at *
      clear hbd
      cases bd
      · go_wp2_with fail
        refine (HQ.out _ (HP.out.below (by first | exact Below.refl _ _ | go_grown)) (HU.out.below (by first | exact hb | exact bthen hb (by go_grown)))).mono ?_
        rintro e w1 ⟨rfl, hb1⟩
        have hb2 : Below w.heap.size w w1 := bthen (by first | exact hb | exact bthen hb (by go_grown)) hb1
        go_wp2
        exact ⟨⟨k + 1, by go_num, hlt, Lib.hid (fun j hj => by
          rcases Nat.lt_or_ge j k with h | h
          · exact HS.out j h
          · obtain rfl : j = k := by omega
            exact HD.out), hb2⟩, by simp [intOf]; omega⟩
      · go_wp2_with fail
        refine (HQ.out _ (HP.out.below (by first | exact Below.refl _ _ | go_grown)) (HU.out.below (by first | exact hb | exact bthen hb (by go_grown)))).mono ?_
        rintro e w1 ⟨rfl, hb1⟩
        have hb2 : Below w.heap.size w w1 := bthen (by first | exact hb | exact bthen hb (by go_grown)) hb1
        go_wp2
        go_ret
        exact Gives.int (findI_hit HS.out Hkl.out HD.out) hb2
    · obtain rfl : k = n := by omega
      go_wp2
      go_ret
      exact Gives.int (findI_none (by rw [← Hn.out]; exact HS.out)) hb
set_option maxHeartbeats 1000000 in
theorem itemWith_c (v u : Value) (l : List Item) (p : List Int) (w : World) (hv : ItemsAt w v l) (hu : IntsAt w u p) :
    Calls Tryz.prog 51 #[v, u] w (Gives (.int .i64 (findI (isPt p) l)) w) := by
  obtain ⟨a, n, cap, rfl, hn, hl, hm, hc⟩ := hv
  have HU := Lib.hid hu
  have Hc := Lib.hid hc; clear hc
  have Hn := Lib.hid hn; clear hn
  obtain ⟨ua, un, uc, rfl, -⟩ := hu
  go_enter Tryz.func51, Tryz.ntmps51
  go_wp2
  go_loopw [9] (fun i wr => ∃ k : Nat, i = .int .i64 k ∧ k ≤ n ∧ Hid (∀ j, j < k → isPt p (nth l j) = false) ∧ Below w.heap.size w wr) (fun i _ => n - (intOf i).toNat)
  case atStart => exact ⟨0, rfl, Nat.zero_le _, Lib.hid (fun j hj => absurd hj (Nat.not_lt_zero _)), Below.refl _ _⟩
  case round =>
    obtain ⟨k, rfl, hk, HS, hb⟩ := hrel
    by_cases hlt : k < n
    · have Hkl : Hid (k < l.length) := Lib.hid (by rw [← Hn.out]; exact hlt)
      obtain ⟨b, o, pa, pn, pc, rfl, hbs, hsz, hp, c0, c1⟩ := item_cells (Hc.out.below hb) k Hkl.out
      have HP := Lib.hid hp; clear hp
      have HD : Hid (isPt p (nth l k) = same2 eqI (nth l k).pattern p) := Lib.hid rfl
      have HQ := Lib.hid (fun W x y => iSame_c (.slice pa pn pc) (.slice ua un uc) (nth l k).pattern p W x y)
      generalize hbd : same2 eqI (nth l k).pattern p = bd at *
      clear hbd
      cases bd
      · go_wp2_with fail
        refine (HQ.out _ (HP.out.below (by first | exact Below.refl _ _ | go_grown)) (HU.out.below (by first | exact hb | exact bthen hb (by go_grown)))).mono ?_
        rintro e w1 ⟨rfl, hb1⟩
        have hb2 : Below w.heap.size w w1 := bthen (by first | exact hb | exact bthen hb (by go_grown)) hb1
        go_wp2
        exact ⟨⟨k + 1, by go_num, hlt, Lib.hid (fun j hj => by
          rcases Nat.lt_or_ge j k with h | h
          · exact HS.out j h
          · obtain rfl : j = k := by omega
            exact HD.out), hb2⟩, by simp [intOf]; omega⟩
      · go_wp2_with fail
        refine (HQ.out _ (HP.out.below (by first | exact Below.refl _ _ | go_grown)) (HU.out.below (by first | exact hb | exact bthen hb (by go_grown)))).mono ?_
        rintro e w1 ⟨rfl, hb1⟩
        have hb2 : Below w.heap.size w w1 := bthen (by first | exact hb | exact bthen hb (by go_grown)) hb1
        go_wp2
        go_ret
        exact Gives.int (findI_hit HS.out Hkl.out HD.out) hb2
    · obtain rfl : k = n := by omega
      go_wp2
      go_ret
      exact Gives.int (findI_none (by rw [← Hn.out]; exact HS.out)) hb

def GivesItems (l : List Item) (w : World) (e : Ending) (w' : World) : Prop := ∃ a n c, e = .returned (.slice a n c) ∧ OwnItems w' w.heap.size (.slice a n c) l ∧ Below w.heap.size w w'
theorem own_items_empty (w : World) : OwnItems (w.alloc (.cells #[] 62)) w.heap.size (.slice (some ⟨w.heap.size, 0, none⟩) 0 0) [] :=
  ⟨[], rfl, World.ownsRow_lit w #[] 0 (Nat.le_refl _) (by decide) rfl, fun _ h => absurd h List.not_mem_nil, List.Pairwise.nil⟩
theorem itemInfo0 : (Tryz.prog.info? 62).map (fun i => (i.zero, i.size, i.bytes)) = some (some (.agg #[.string ByteArray.empty, .slice none 0 0]), 2, 40) := by kernel_rfl
theorem items_one (ps : List (Value × Item)) (h : ∀ p ∈ ps, ∃ pa pn pc, p.1 = .slice pa pn pc) : ∀ u ∈ ps.flatMap (fun p => itemS.enc p.1 p.2), u.oneCell' = true := by
  intro u hu
  obtain ⟨p, hp, hu⟩ := List.mem_flatMap.1 hu
  obtain ⟨pa, pn, pc, e⟩ := h p hp
  simp only [itemS, List.mem_cons, List.not_mem_nil, or_false] at hu
  rcases hu with rfl | rfl
  · rfl
  · rw [e]; rfl
/-- 'append(out, items..)' in a region that draws its order. -/
theorem step_app_items {w : World} {ops : Array Oper} {o : Oper} {a : Act} {K : Act → World → Prop} {Q : Exit → Act → World → Prop} {E : Prop} (hgd : o.guard = none) (s x : Operand)
    (ho : o.op = .call { callee := .builtin .append, args := #[s, x], argTypes := #[24, 24] })
    (base : Nat) (v : Value) (n : Nat) (xs : List Value) (hs : a.eval s = v) (hown : w.ownsRow base 62 2 v n xs)
    (A : Option Addr) (m c : Nat) (news : List Value) (hx : a.eval x = .slice A m c) (hr : Reads w w.heap.size 2 A m news) (h1 : ∀ u ∈ news, u.oneCell' = true)
    (hsz : n + m ≤ 1073741824) (hbase : base ≤ w.heap.size)
    (h : ∀ a' n' c' w', w'.ownsRow base 62 2 (.slice a' n' c') (n + m) (xs ++ news) → w.grownBy w' v.ownBlock → ((Value.slice a' n' c').ownBlock = v.ownBlock ∨ (Value.slice a' n' c').ownBlock = some w.heap.size) → K (a.put o.dst (.slice a' n' c')) w') :
    if Region.wanted o (yielded ops a.tmps) = true then Oper.wp Tryz.prog o a w K Q else E := by
  obtain ⟨i0, hi, hz0, hz1, hz2⟩ := info_parts itemInfo0
  refine step_append_any w hgd s x 24 ho base 62 i0 _ 2 40 Tryz.underlying24 hi hz0 hz1 hz2 rfl (by decide) v n xs hs hown w.heap.size A m c news hx hr h1 (by unfold maxLen; omega) (by omega) hbase ?_
  intro v' w' hown' hg hb
  obtain ⟨a', c', rfl⟩ := slice_of_own hown'
  exact h a' _ c' w' hown' hg hb
theorem wpList_app_items {w : World} {ops : Array Oper} {rest : List Oper} {o : Oper} {a : Act} {Q : Exit → Act → World → Prop} (hgd : o.guard = none) (s x : Operand)
    (ho : o.op = .call { callee := .builtin .append, args := #[s, x], argTypes := #[24, 24] })
    (base : Nat) (v : Value) (n : Nat) (xs : List Value) (hs : a.eval s = v) (hown : w.ownsRow base 62 2 v n xs)
    (A : Option Addr) (m c : Nat) (news : List Value) (hx : a.eval x = .slice A m c) (hr : Reads w w.heap.size 2 A m news) (h1 : ∀ u ∈ news, u.oneCell' = true)
    (hsz : n + m ≤ 1073741824) (hbase : base ≤ w.heap.size)
    (h : ∀ a' n' c' w', n' = n + m → w'.ownsRow base 62 2 (.slice a' n' c') (n + m) (xs ++ news) → w.grownBy w' v.ownBlock → ((Value.slice a' n' c').ownBlock = v.ownBlock ∨ (Value.slice a' n' c').ownBlock = some w.heap.size) → wpList Tryz.prog ops Q rest (a.put o.dst (.slice a' n' c')) w') :
    wpList Tryz.prog ops Q (o :: rest) a w := by
  obtain ⟨i0, hi, hz0, hz1, hz2⟩ := info_parts itemInfo0
  refine wpList_append_any w hgd s x 24 ho base 62 i0 _ 2 40 Tryz.underlying24 hi hz0 hz1 hz2 rfl (by decide) v n xs hs hown w.heap.size A m c news hx hr h1 (by unfold maxLen; omega) (by omega) hbase ?_
  intro v' w' hown' hg hb
  obtain ⟨a', c', rfl⟩ := slice_of_own hown'
  exact h a' _ c' w' rfl hown' hg hb
theorem item_new (w : World) (nm : ByteArray) (u : Value) (t : TypeId) : Reads (w.alloc (.cells #[.string nm, u] t)) (w.alloc (.cells #[.string nm, u] t)).heap.size 2 (some ⟨w.heap.size, 0, none⟩) 1 [.string nm, u] := by
  refine ⟨rfl, fun _ => ⟨_, rfl, by simp, fun j x hx => ?_⟩⟩
  have ea : (⟨w.heap.size, 0, none⟩ : Addr).add j = ⟨w.heap.size, j, none⟩ := by unfold Addr.add; split <;> simp_all
  rw [ea, World.cell?_alloc_at _ _ _ _ rfl]
  simpa using hx
end Go.Proofs.YtcgbdhbdlnimhaaGreat

/- ItemsCp: copies of items, by both packages. -/
namespace Go.Proofs.YtcgbdhbdlnimhaaGreat
open Go.ChangeShapes Go.WideShapes Go.ChangeAt Go.RowKit

theorem cell_alloc {W : World} {p : Addr} {x : Value} (h : W.cell? p = some x) (o : Obj) : (W.alloc o).cell? p = some x := by
  rw [World.cell?_alloc_some _ _ _ (by rw [h]; rfl)]; exact h
theorem cell_grown {W W' : World} {b o : Nat} {x : Value} {row : Option Nat} (h : W.cell? ⟨b, o, none⟩ = some x) (hg : W.grownBy W' row) (hne : row ≠ some b) : W'.cell? ⟨b, o, none⟩ = some x :=
  (World.cell?_of_block (hg.block b (World.block_lt_of_cell? W _ h) (fun e => hne e.symm))).trans h
theorem NestIn.more {α : Type} [Inhabited α] {S : Shape α} {T : TypeId} {w : World} {lo hi hi' : Nat} {v : Value} {ps : List (Value × α)} (h : NestIn S T w lo hi v ps) (hh : hi ≤ hi') : NestIn S T w lo hi' v ps :=
  ⟨⟨h.row.1, fun g hg => Nat.lt_of_lt_of_le (h.row.2 g hg) hh⟩, h.sl, fun i hi0 => ⟨(h.pat i hi0).1, fun g hg => Nat.lt_of_lt_of_le ((h.pat i hi0).2 g hg) hh⟩, h.ok, h.far, h.dis⟩
theorem go_below_alloc (W : World) (o : Obj) : Below W.heap.size W (W.alloc o) := (Below.refl _ _).alloc (Nat.le_refl _) _
set_option maxHeartbeats 2000000 in
theorem l22Own_c (v : Value) (l : List Item) (w : World) (hv : ItemsAt w v l) (hl1000 : l.length ≤ 1048576) (hp20 : ∀ x ∈ l, x.pattern.length ≤ 1048576) :
    Calls Tryz.prog 61 #[v] w (GivesItems l w) := by
  obtain ⟨a, n, cap, rfl, hn, hl, hm, hc⟩ := hv
  have Hc := Lib.hid hc; clear hc
  have hn20 : n ≤ 1048576 := by omega
  have Hn := Lib.hid hn; clear hn hl1000
  have Hp20 := Lib.hid hp20; clear hp20
  go_enter Tryz.func61, Tryz.ntmps61
  go_wp2
  go_loopw [3, 4] (fun s i wr => ∃ (k : Nat) (a' : Option Addr) (n' c' : Nat), i = .int .i64 k ∧ k ≤ n ∧ s = .slice a' n' c' ∧ Hid (OwnItems wr w.heap.size (.slice a' n' c') (l.take k)) ∧ Below w.heap.size w wr) (fun _ i _ => n - (intOf i).toNat)
  case atStart => exact ⟨0, _, _, _, rfl, Nat.zero_le _, rfl, Lib.hid (own_items_empty w), by go_grown⟩
  case round =>
    obtain ⟨k, a', n', c', rfl, hk, rfl, HO, hb⟩ := hrel
    by_cases hlt : k < n
    · have Hkl : Hid (k < l.length) := Lib.hid (by rw [← Hn.out]; exact hlt)
      obtain ⟨b, o, pa, pn, pc, rfl, hbs, hsz, hp, c0, c1⟩ := item_cells Hc.out k Hkl.out
      have HP := Lib.hid hp; clear hp
      have C0 : Hid (∀ W, Below w.heap.size w W → W.cell? ⟨b, o + k * 2, none⟩ = some (.string (nth l k).name)) := Lib.hid (fun W h => cell_then hbs c0 h)
      have C1 : Hid (∀ W, Below w.heap.size w W → W.cell? ⟨b, o + k * 2 + 1, none⟩ = some (.slice pa pn pc)) := Lib.hid (fun W h => cell_then hbs c1 h)
      clear c0 c1
      obtain ⟨ps, hps', hN⟩ := InNest.of HO.out
      have hlen : ps.length = k := by have := congrArg List.length hps'; rw [List.length_map, List.length_take, ← Hn.out] at this; omega
      have Hps := Lib.hid hps'; clear hps'
      have HN := Lib.hid hN; clear hN HO
      have Hlen := Lib.hid hlen; clear hlen
      have Hsz := Lib.hid hsz; clear hsz
      have K1 := Lib.hid (fun W x => l00Own_c (.slice pa pn pc) (nth l k).pattern W x (Hp20.out _ (mem_nth Hkl.out)))
      go_wp2
      refine wp_region_held_drew (S := fun w' => Below w.heap.size w w') (by kernel_rfl) (by exact (hb).drew) (fun hHeld => ?_)
      refine wpAnyH_take (i := 0) (oi := ⟨_, _, _, _, _, _⟩) (v := ?_) rfl (by kernel_rfl) (by kernel_rfl) (by kernel_rfl) (fun _ _ _ h => h) (Or.inl ⟨by rfl, ?_⟩) (by assumption) ?_; rotate_left; (focus (intro w hSw; (try dsimp only at hSw); go_simp; try with_reducible rfl)); (try simp only [Act.put, List.setIfInBounds_toArray, List.set_cons_zero, List.set_cons_succ])
      refine wpAnyH_take (i := 1) (oi := ⟨_, _, _, _, _, _⟩) (v := ?_) rfl (by kernel_rfl) (by kernel_rfl) (by kernel_rfl) (fun _ _ _ h => h) (Or.inl ⟨by rfl, ?_⟩) (by assumption) ?_; rotate_left; (focus (intro w hSw; (try dsimp only at hSw); go_simp; try with_reducible rfl)); (try simp only [Act.put, List.setIfInBounds_toArray, List.set_cons_zero, List.set_cons_succ])
      refine wpAnyH_take (i := 2) (oi := ⟨_, _, _, _, _, _⟩) (v := ?_) rfl (by kernel_rfl) (by kernel_rfl) (by kernel_rfl) (fun _ _ _ h => h) (Or.inl ⟨by rfl, ?_⟩) (by assumption) ?_; rotate_left; (focus (intro w hSw; (try dsimp only at hSw); go_simp; try with_reducible rfl)); (try simp only [Act.put, List.setIfInBounds_toArray, List.set_cons_zero, List.set_cons_succ])
      refine wpAnyH_take (i := 3) (oi := ⟨_, _, _, _, _, _⟩) (v := ?_) rfl (by kernel_rfl) (by kernel_rfl) (by kernel_rfl) (fun _ _ _ h => h) (Or.inl ⟨by rfl, ?_⟩) (by assumption) ?_; rotate_left; (focus (intro w hSw; (try dsimp only at hSw); go_simp; try with_reducible rfl)); (try simp only [Act.put, List.setIfInBounds_toArray, List.set_cons_zero, List.set_cons_succ])
      refine wpAnyH_take (i := 4) (oi := ⟨_, _, _, _, _, _⟩) (v := ?_) rfl (by kernel_rfl) (by kernel_rfl) (by kernel_rfl) (fun _ _ _ h => h) (Or.inl ⟨by rfl, ?_⟩) (by assumption) ?_; rotate_left; (focus (intro w hSw; (try dsimp only at hSw); go_simp; try with_reducible rfl)); (try simp only [Act.put, List.setIfInBounds_toArray, List.set_cons_zero, List.set_cons_succ])
      refine wpAnyH_take (i := 5) (oi := ⟨_, _, _, _, _, _⟩) (v := ?_) rfl (by kernel_rfl) (by kernel_rfl) (by kernel_rfl) (fun _ _ _ h => h) (Or.inl ⟨by rfl, ?_⟩) (by assumption) ?_; rotate_left; (focus (intro w hSw; (try dsimp only at hSw); have t0 := C0.out _ hSw; have t1 := C1.out _ hSw; go_simp; try with_reducible rfl)); (try simp only [Act.put, List.setIfInBounds_toArray, List.set_cons_zero, List.set_cons_succ])
      refine wpAnyH_take (i := 6) (oi := ⟨_, _, _, _, _, _⟩) (v := ?_) rfl (by kernel_rfl) (by kernel_rfl) (by kernel_rfl) (fun _ _ _ h => h) (Or.inl ⟨by rfl, ?_⟩) (by assumption) ?_; rotate_left; (focus (intro w hSw; (try dsimp only at hSw); go_simp; try with_reducible rfl)); (try simp only [Act.put, List.setIfInBounds_toArray, List.set_cons_zero, List.set_cons_succ])
      refine wpAnyH_take (i := 7) (oi := ⟨_, _, _, _, _, _⟩) (v := ?_) rfl (by kernel_rfl) (by kernel_rfl) (by kernel_rfl) (fun _ _ _ h => h) (Or.inl ⟨by rfl, ?_⟩) (by assumption) ?_; rotate_left; (focus (intro w hSw; (try dsimp only at hSw); go_simp; try with_reducible rfl)); (try simp only [Act.put, List.setIfInBounds_toArray, List.set_cons_zero, List.set_cons_succ])
      refine wpAnyH_take (i := 8) (oi := ⟨_, _, _, _, _, _⟩) (v := ?_) rfl (by kernel_rfl) (by kernel_rfl) (by kernel_rfl) (fun _ _ _ h => h) (Or.inl ⟨by rfl, ?_⟩) (by assumption) ?_; rotate_left; (focus (intro w hSw; (try dsimp only at hSw); go_simp; try with_reducible rfl)); (try simp only [Act.put, List.setIfInBounds_toArray, List.set_cons_zero, List.set_cons_succ])
      refine wpAnyH_take (i := 9) (oi := ⟨_, _, _, _, _, _⟩) (v := ?_) rfl (by kernel_rfl) (by kernel_rfl) (by kernel_rfl) (fun _ _ _ h => h) (Or.inl ⟨by rfl, ?_⟩) (by assumption) ?_; rotate_left; (focus (intro w hSw; (try dsimp only at hSw); go_simp; try with_reducible rfl)); (try simp only [Act.put, List.setIfInBounds_toArray, List.set_cons_zero, List.set_cons_succ])
      refine wpAnyH_take (i := 10) (oi := ⟨_, _, _, _, _, _⟩) (v := ?_) rfl (by kernel_rfl) (by kernel_rfl) (by kernel_rfl) (fun _ _ _ h => h) (Or.inl ⟨by rfl, ?_⟩) (by assumption) ?_; rotate_left; (focus (intro w hSw; (try dsimp only at hSw); have t0 := C0.out _ hSw; have t1 := C1.out _ hSw; go_simp; try with_reducible rfl)); (try simp only [Act.put, List.setIfInBounds_toArray, List.set_cons_zero, List.set_cons_succ])
      refine wpAnyH_ready (rs := [11]) (by kernel_rfl) (by simp) ?_
      refine AllReadyH.cons (o := ⟨_, _, _, _, _, _⟩) rfl (fun K hK => ?_) AllReadyH.nil
      go_simp
      go_at_call 100; (with_reducible refine (K1.out _ (HP.out.below hHeld)).mono ?_); rintro e x1 ⟨a1, n1, c1, rfl, o1, d1⟩; have hd1 := below_of_drew d1; have HI : Hid (InInts x1 wr.heap.size x1.heap.size (.slice a1 n1 c1) (nth l k).pattern) := Lib.hid (InInts.of o1); have HN1 := Lib.hid (HN.out.below hd1); have hS' := bthen hHeld d1; clear o1 d1
      refine hK.out _ _ (by exact hS') (fun hHeld' => ?_)
      clear hHeld hK K
      have hHeld := hHeld'
      clear hHeld'
      try simp only [Act.put, List.setIfInBounds_toArray, List.set_cons_zero, List.set_cons_succ]
      refine wpAnyH_take (i := 12) (oi := ⟨_, _, _, _, _, _⟩) (v := ?_) rfl (by kernel_rfl) (by kernel_rfl) (by kernel_rfl) (fun _ _ _ h => h) (Or.inl ⟨by rfl, ?_⟩) (by assumption) ?_; rotate_left; (focus (intro w hSw; (try dsimp only at hSw); go_simp; try with_reducible rfl)); (try simp only [Act.put, List.setIfInBounds_toArray, List.set_cons_zero, List.set_cons_succ])
      refine wpAnyH_ready (rs := [13]) (by kernel_rfl) (by simp) ?_
      refine AllReadyH.cons (o := ⟨_, _, _, _, _, _⟩) rfl (fun K hK => ?_) AllReadyH.nil
      go_simp
      refine hK.out _ _ (by exact hHeld.alloc hHeld.size _) (fun hHeld' => ?_)
      clear hHeld hK K
      have hHeld := hHeld'
      clear hHeld'
      try simp only [Act.put, List.setIfInBounds_toArray, List.set_cons_zero, List.set_cons_succ]
      refine wpAnyH_ready (rs := [14]) (by kernel_rfl) (by simp) ?_
      refine AllReadyH.cons (o := ⟨_, _, _, _, _, _⟩) rfl (fun K hK => ?_) AllReadyH.nil
      refine step_app_items rfl _ _ rfl w.heap.size _ ps.length _ rfl (HN1.out.below (go_below_alloc _ _)).row.1 _ 1 1 [.string (nth l k).name, .slice a1 n1 c1] rfl (item_new _ _ _ _) (by intro u hu; simp at hu; rcases hu with rfl | rfl <;> rfl) (by have := Hlen.out; omega) (by have := hS'.size; simp; omega) ?_; intro a2 n2 c2 w2 ho2 hg2 hl2; have hS' : Below w.heap.size w w2 := hHeld.grown hg2 hHeld.size (fun g hg => (HN.out.row.1.lt g hg).1)
      refine hK.out _ _ (by exact hS') (fun hHeld' => ?_)
      clear hHeld hK K
      have hHeld := hHeld'
      clear hHeld'
      try simp only [Act.put, List.setIfInBounds_toArray, List.set_cons_zero, List.set_cons_succ]
      refine wpAnyH_take (i := 15) (oi := ⟨_, _, _, _, _, _⟩) (v := ?_) rfl (by kernel_rfl) (by kernel_rfl) (by kernel_rfl) (fun _ _ _ h => h) (Or.inl ⟨by rfl, ?_⟩) (by assumption) ?_; rotate_left; (focus (intro w hSw; (try dsimp only at hSw); go_simp; try with_reducible rfl)); (try simp only [Act.put, List.setIfInBounds_toArray, List.set_cons_zero, List.set_cons_succ])
      refine wpAnyH_done (by kernel_rfl) ?_ _
      have HO2 : Hid (OwnItems w2 w.heap.size (.slice a2 n2 c2) (l.take (k + 1))) := Lib.hid (by
        have h := nest_snoc (x := nth l k) (HN1.out.below (go_below_alloc _ _)) (HI.out.below (go_below_alloc _ _)) (hb.size) ⟨_, _, _, rfl⟩ Hsz.out (by have := hd1.size; simp; omega) ho2 hg2 hl2
        rw [Hps.out, ← take_nth l k Hkl.out] at h
        exact h)
      clear ho2 hg2 hl2
      go_wp2
      exact ⟨⟨k + 1, a2, n2, c2, by go_num, hlt, rfl, HO2, hHeld⟩, by simp [intOf]; omega⟩
    · obtain rfl : k = n := by omega
      have HO3 : Hid (OwnItems wr w.heap.size (.slice a' n' c') l) := Lib.hid (by have := HO.out; rwa [Hn.out, List.take_length] at this)
      clear HO
      go_wp2
      go_ret
      exact ⟨_, _, _, rfl, HO3.out, hb⟩
set_option maxHeartbeats 2000000 in
theorem copyItems_c (v : Value) (l : List Item) (w : World) (hv : ItemsAt w v l) (hl1000 : l.length ≤ 1048576) (hp20 : ∀ x ∈ l, x.pattern.length ≤ 1048576) :
    Calls Tryz.prog 53 #[v] w (GivesItems l w) := by
  obtain ⟨a, n, cap, rfl, hn, hl, hm, hc⟩ := hv
  have Hc := Lib.hid hc; clear hc
  have hn20 : n ≤ 1048576 := by omega
  have Hn := Lib.hid hn; clear hn hl1000
  have Hp20 := Lib.hid hp20; clear hp20
  go_enter Tryz.func53, Tryz.ntmps53
  go_wp2
  go_loopw [3, 9] (fun s i wr => ∃ (k : Nat) (a' : Option Addr) (n' c' : Nat), i = .int .i64 k ∧ k ≤ n ∧ s = .slice a' n' c' ∧ Hid (OwnItems wr w.heap.size (.slice a' n' c') (l.take k)) ∧ Below w.heap.size w wr) (fun _ i _ => n - (intOf i).toNat)
  case atStart => exact ⟨0, _, _, _, rfl, Nat.zero_le _, rfl, Lib.hid (own_items_empty w), by go_grown⟩
  case round =>
    obtain ⟨k, a', n', c', rfl, hk, rfl, HO, hb⟩ := hrel
    by_cases hlt : k < n
    · have Hkl : Hid (k < l.length) := Lib.hid (by rw [← Hn.out]; exact hlt)
      obtain ⟨b, o, pa, pn, pc, rfl, hbs, hsz, hp, c0, c1⟩ := item_cells (Hc.out.below hb) k Hkl.out
      have HP := Lib.hid hp; clear hp
      obtain ⟨ps, hps', hN⟩ := InNest.of HO.out
      have hlen : ps.length = k := by have := congrArg List.length hps'; rw [List.length_map, List.length_take, ← Hn.out] at this; omega
      have Hps := Lib.hid hps'; clear hps'
      have HN := Lib.hid hN; clear hN HO
      have Hlen := Lib.hid hlen; clear hlen
      have Hsz := Lib.hid hsz; clear hsz
      have K1 := Lib.hid (fun W x => copyNumbers_c (.slice pa pn pc) (nth l k).pattern W x (Hp20.out _ (mem_nth Hkl.out)))
      go_wp2
      generalize hG : World.alloc wr (.cells #[.string (nth l k).name, .slice pa pn pc] 62) = wx at *
      have hbx : Below wr.heap.size wr wx := by rw [← hG]; go_grown
      have HB : Hid (BoxIs wx wr.heap.size [.string (nth l k).name, .slice pa pn pc]) := Lib.hid (by rw [← hG]; exact BoxIs.new _ _ _)
      clear hG c0 c1
      have hbw := bthen hb hbx
      have HNx := Lib.hid (HN.out.below hbx)
      have HPx := Lib.hid (HP.out.below hbx)
      refine wp_region_held_drew (S := fun w' => Below w.heap.size w w' ∧ w'.cell? ⟨wr.heap.size, 0, none⟩ = some (.string (nth l k).name) ∧ w'.cell? ⟨wr.heap.size, 1, none⟩ = some (.slice pa pn pc)) (by kernel_rfl) (by exact ⟨hbw.drew, HB.out.2.1 0, HB.out.2.1 1⟩) (fun hHeld => ?_)
      refine wpAnyH_take (i := 0) (oi := ⟨_, _, _, _, _, _⟩) (v := ?_) rfl (by kernel_rfl) (by kernel_rfl) (by kernel_rfl) (fun _ _ _ h => h) (Or.inl ⟨by rfl, ?_⟩) (by assumption) ?_; rotate_left; (focus (intro w hSw; (try dsimp only at hSw); go_simp; try with_reducible rfl)); (try simp only [Act.put, List.setIfInBounds_toArray, List.set_cons_zero, List.set_cons_succ])
      refine wpAnyH_take (i := 1) (oi := ⟨_, _, _, _, _, _⟩) (v := ?_) rfl (by kernel_rfl) (by kernel_rfl) (by kernel_rfl) (fun _ _ _ h => h) (Or.inl ⟨by rfl, ?_⟩) (by assumption) ?_; rotate_left; (focus (intro w hSw; (try dsimp only at hSw); go_simp; try with_reducible rfl)); (try simp only [Act.put, List.setIfInBounds_toArray, List.set_cons_zero, List.set_cons_succ])
      refine wpAnyH_take (i := 2) (oi := ⟨_, _, _, _, _, _⟩) (v := ?_) rfl (by kernel_rfl) (by kernel_rfl) (by kernel_rfl) (fun _ _ _ h => h) (Or.inl ⟨by rfl, ?_⟩) (by assumption) ?_; rotate_left; (focus (intro w hSw; (try dsimp only at hSw); obtain ⟨_, t0, t1⟩ := hSw; go_simp; try with_reducible rfl)); (try simp only [Act.put, List.setIfInBounds_toArray, List.set_cons_zero, List.set_cons_succ])
      refine wpAnyH_take (i := 3) (oi := ⟨_, _, _, _, _, _⟩) (v := ?_) rfl (by kernel_rfl) (by kernel_rfl) (by kernel_rfl) (fun _ _ _ h => h) (Or.inl ⟨by rfl, ?_⟩) (by assumption) ?_; rotate_left; (focus (intro w hSw; (try dsimp only at hSw); go_simp; try with_reducible rfl)); (try simp only [Act.put, List.setIfInBounds_toArray, List.set_cons_zero, List.set_cons_succ])
      refine wpAnyH_take (i := 4) (oi := ⟨_, _, _, _, _, _⟩) (v := ?_) rfl (by kernel_rfl) (by kernel_rfl) (by kernel_rfl) (fun _ _ _ h => h) (Or.inl ⟨by rfl, ?_⟩) (by assumption) ?_; rotate_left; (focus (intro w hSw; (try dsimp only at hSw); obtain ⟨_, t0, t1⟩ := hSw; go_simp; try with_reducible rfl)); (try simp only [Act.put, List.setIfInBounds_toArray, List.set_cons_zero, List.set_cons_succ])
      refine wpAnyH_ready (rs := [5]) (by kernel_rfl) (by simp) ?_
      refine AllReadyH.cons (o := ⟨_, _, _, _, _, _⟩) rfl (fun K hK => ?_) AllReadyH.nil
      go_simp
      go_at_call 54; (with_reducible refine (K1.out _ (HPx.out.below (Below.refl _ _).drew)).mono ?_); rintro e x1 ⟨a1, n1, c1, rfl, o1, d1⟩; have hd1 := below_of_drew d1; have HI : Hid (InInts x1 wx.heap.size x1.heap.size (.slice a1 n1 c1) (nth l k).pattern) := Lib.hid (InInts.of o1); have HN1 := Lib.hid (HNx.out.below hd1); have hS' : Below w.heap.size w x1 ∧ x1.cell? ⟨wr.heap.size, 0, none⟩ = some (.string (nth l k).name) ∧ x1.cell? ⟨wr.heap.size, 1, none⟩ = some (.slice pa pn pc) := ⟨bthen hHeld.1 d1, (HB.out.below hd1).2.1 0, (HB.out.below hd1).2.1 1⟩; clear o1 d1
      refine hK.out _ _ (by exact hS') (fun hHeld' => ?_)
      clear hHeld hK K
      have hHeld := hHeld'
      clear hHeld'
      try simp only [Act.put, List.setIfInBounds_toArray, List.set_cons_zero, List.set_cons_succ]
      refine wpAnyH_take (i := 6) (oi := ⟨_, _, _, _, _, _⟩) (v := ?_) rfl (by kernel_rfl) (by kernel_rfl) (by kernel_rfl) (fun _ _ _ h => h) (Or.inl ⟨by rfl, ?_⟩) (by assumption) ?_; rotate_left; (focus (intro w hSw; (try dsimp only at hSw); go_simp; try with_reducible rfl)); (try simp only [Act.put, List.setIfInBounds_toArray, List.set_cons_zero, List.set_cons_succ])
      refine wpAnyH_ready (rs := [7]) (by kernel_rfl) (by simp) ?_
      refine AllReadyH.cons (o := ⟨_, _, _, _, _, _⟩) rfl (fun K hK => ?_) AllReadyH.nil
      go_simp
      refine hK.out _ _ (by exact ⟨hHeld.1.alloc hHeld.1.size _, cell_alloc hHeld.2.1 _, cell_alloc hHeld.2.2 _⟩) (fun hHeld' => ?_)
      clear hHeld hK K
      have hHeld := hHeld'
      clear hHeld'
      try simp only [Act.put, List.setIfInBounds_toArray, List.set_cons_zero, List.set_cons_succ]
      refine wpAnyH_ready (rs := [8]) (by kernel_rfl) (by simp) ?_
      refine AllReadyH.cons (o := ⟨_, _, _, _, _, _⟩) rfl (fun K hK => ?_) AllReadyH.nil
      refine step_app_items rfl _ _ rfl w.heap.size _ ps.length _ rfl (HN1.out.below (go_below_alloc _ _)).row.1 _ 1 1 [.string (nth l k).name, .slice a1 n1 c1] rfl (item_new _ _ _ _) (by intro u hu; simp at hu; rcases hu with rfl | rfl <;> rfl) (by have := Hlen.out; omega) (by have := hS'.1.size; simp; omega) ?_; intro a2 n2 c2 w2 ho2 hg2 hl2; have hS' : Below w.heap.size w w2 ∧ w2.cell? ⟨wr.heap.size, 0, none⟩ = some (.string (nth l k).name) ∧ w2.cell? ⟨wr.heap.size, 1, none⟩ = some (.slice pa pn pc) := ⟨hHeld.1.grown hg2 hHeld.1.size (fun g hg => (HN.out.row.1.lt g hg).1), cell_grown hHeld.2.1 hg2 (fun e => Nat.lt_irrefl _ (HN.out.row.1.lt _ e).2), cell_grown hHeld.2.2 hg2 (fun e => Nat.lt_irrefl _ (HN.out.row.1.lt _ e).2)⟩
      refine hK.out _ _ (by exact hS') (fun hHeld' => ?_)
      clear hHeld hK K
      have hHeld := hHeld'
      clear hHeld'
      try simp only [Act.put, List.setIfInBounds_toArray, List.set_cons_zero, List.set_cons_succ]
      refine wpAnyH_take (i := 9) (oi := ⟨_, _, _, _, _, _⟩) (v := ?_) rfl (by kernel_rfl) (by kernel_rfl) (by kernel_rfl) (fun _ _ _ h => h) (Or.inl ⟨by rfl, ?_⟩) (by assumption) ?_; rotate_left; (focus (intro w hSw; (try dsimp only at hSw); go_simp; try with_reducible rfl)); (try simp only [Act.put, List.setIfInBounds_toArray, List.set_cons_zero, List.set_cons_succ])
      refine wpAnyH_done (by kernel_rfl) ?_ _
      have HO2 : Hid (OwnItems w2 w.heap.size (.slice a2 n2 c2) (l.take (k + 1))) := Lib.hid (by
        have h := nest_snoc (x := nth l k) (hi := wx.heap.size) (NestIn.more (HN1.out.below (go_below_alloc _ _)) hbx.size) (HI.out.below (go_below_alloc _ _)) (hbw.size) ⟨_, _, _, rfl⟩ Hsz.out (by have := hd1.size; simp; omega) ho2 hg2 hl2
        rw [Hps.out, ← take_nth l k Hkl.out] at h
        exact h)
      clear ho2 hg2 hl2
      have hb2 := hHeld.1
      clear hHeld
      go_wp2
      exact ⟨⟨k + 1, a2, n2, c2, by go_num, hlt, rfl, HO2, hb2⟩, by simp [intOf]; omega⟩
    · obtain rfl : k = n := by omega
      have HO3 : Hid (OwnItems wr w.heap.size (.slice a' n' c') l) := Lib.hid (by have := HO.out; rwa [Hn.out, List.take_length] at this)
      clear HO
      go_wp2
      go_ret
      exact ⟨_, _, _, rfl, HO3.out, hb⟩
end Go.Proofs.YtcgbdhbdlnimhaaGreat
