/- ItemsFn: finding an item, copying items, by both packages. -/
import Derived.Test.YthnkhpebaeloeaaItemsL
import Derived.Test.YthnkhpebaeloeaaNestApp
import Derived.Deep.RegionHeld3
namespace Go.Proofs.Ythnkhpebaeloeaa
open Go.ChangeShapes Go.WideShapes Go.ChangeAt Go.RowKit

def findI (f : Item → Bool) (l : List Item) : Int := match l.findIdx? f with
  | some i => i
  | none => -1
theorem findI_hit {f : Item → Bool} {l : List Item} {k : Nat} (h : ∀ j, j < k → f (nth l j) = false) (hk : k < l.length) (hf : f (nth l k) = true) : findI f l = k := by
  have : l.findIdx? f = some k := by
    rw [List.findIdx?_eq_some_iff_getElem]
    refine ⟨hk, by rw [← nth_eq l k hk]; exact hf, fun j hj => ?_⟩
    rw [← nth_eq l j (by omega), h j hj]; simp
  unfold findI; rw [this]
theorem findI_none {f : Item → Bool} {l : List Item} (h : ∀ j, j < l.length → f (nth l j) = false) : findI f l = -1 := by
  have : l.findIdx? f = none := by
    rw [List.findIdx?_eq_none_iff]
    intro x hx
    obtain ⟨i, hi, rfl⟩ := List.getElem_of_mem hx
    rw [← nth_eq l i hi]; exact h i hi
  unfold findI; rw [this]
theorem findI_cases (f : Item → Bool) (l : List Item) : findI f l = -1 ∨ ∃ k : Nat, findI f l = (k : Int) ∧ k < l.length ∧ f (nth l k) = true ∧ ∀ j, j < k → f (nth l j) = false := by
  cases h : l.findIdx? f with
  | none => left; unfold findI; rw [h]
  | some k =>
    right
    rw [List.findIdx?_eq_some_iff_getElem] at h
    obtain ⟨hk, h1, h2⟩ := h
    have h3 : ∀ j, j < k → f (nth l j) = false := fun j hj => by rw [nth_eq l j (by omega)]; simpa using h2 j hj
    exact ⟨k, findI_hit h3 hk (by rw [nth_eq l k hk]; exact h1), hk, by rw [nth_eq l k hk]; exact h1, h3⟩
def isNm (s : ByteArray) (x : Item) : Bool := decide (x.name = s)
def isPt (p : List Int) (x : Item) : Bool := same2 eqI x.pattern p

set_option maxHeartbeats 1000000 in
theorem l22Find_c (v : Value) (l : List Item) (s : ByteArray) (w : World) (hv : ItemsAt w v l) :
    Calls Try.prog 83 #[v, .string s] w (Gives (.int .i64 (findI (isNm s) l)) w) := by
  obtain ⟨a, n, cap, rfl, hn, hl, hm, hc⟩ := hv
  have Hc := Lib.hid hc; clear hc
  have Hn := Lib.hid hn; clear hn
  go_enter Try.func83, Try.ntmps83
  go_wp2
  go_loopw [5] (fun i wr => ∃ k : Nat, i = .int .i64 k ∧ k ≤ n ∧ Hid (∀ j, j < k → isNm s (nth l j) = false) ∧ Below w.heap.size w wr) (fun i _ => n - (intOf i).toNat)
  case atStart => exact ⟨0, rfl, Nat.zero_le _, Lib.hid (fun j hj => absurd hj (Nat.not_lt_zero _)), Below.refl _ _⟩
  case round =>
    obtain ⟨k, rfl, hk, HS, hb⟩ := hrel
    by_cases hlt : k < n
    · have Hkl : Hid (k < l.length) := Lib.hid (by rw [← Hn.out]; exact hlt)
      obtain ⟨b, o, pa, pn, pc, rfl, hbs, hsz, hp, c0, c1⟩ := item_cells (Hc.out.below hb) k Hkl.out
      clear hp
      have m2 := beq_bytes (nth l k).name s
      have HD : Hid (isNm s (nth l k) = decide ((nth l k).name = s)) := Lib.hid rfl
      generalize hbd : decide ((nth l k).name = s) = bd at *
      clear hbd
      cases bd
      · go_wp2
        exact ⟨⟨k + 1, by go_num, hlt, Lib.hid (fun j hj => by
          rcases Nat.lt_or_ge j k with h | h
          · exact HS.out j h
          · obtain rfl : j = k := by omega
            exact HD.out), by first | exact hb | exact bthen hb (by go_grown)⟩, by simp [intOf]; omega⟩
      · go_wp2
        go_ret
        exact Gives.int (findI_hit HS.out Hkl.out HD.out) (by first | exact hb | exact bthen hb (by go_grown))
    · obtain rfl : k = n := by omega
      go_wp2
      go_ret
      exact Gives.int (findI_none (by rw [← Hn.out]; exact HS.out)) hb
set_option maxHeartbeats 1000000 in
theorem itemNamed_c (v : Value) (l : List Item) (s : ByteArray) (w : World) (hv : ItemsAt w v l) :
    Calls Try.prog 89 #[v, .string s] w (Gives (.int .i64 (findI (isNm s) l)) w) := by
  obtain ⟨a, n, cap, rfl, hn, hl, hm, hc⟩ := hv
  have Hc := Lib.hid hc; clear hc
  have Hn := Lib.hid hn; clear hn
  go_enter Try.func89, Try.ntmps89
  go_wp2
  go_loopw [9] (fun i wr => ∃ k : Nat, i = .int .i64 k ∧ k ≤ n ∧ Hid (∀ j, j < k → isNm s (nth l j) = false) ∧ Below w.heap.size w wr) (fun i _ => n - (intOf i).toNat)
  case atStart => exact ⟨0, rfl, Nat.zero_le _, Lib.hid (fun j hj => absurd hj (Nat.not_lt_zero _)), Below.refl _ _⟩
  case round =>
    obtain ⟨k, rfl, hk, HS, hb⟩ := hrel
    by_cases hlt : k < n
    · have Hkl : Hid (k < l.length) := Lib.hid (by rw [← Hn.out]; exact hlt)
      obtain ⟨b, o, pa, pn, pc, rfl, hbs, hsz, hp, c0, c1⟩ := item_cells (Hc.out.below hb) k Hkl.out
      clear hp
      have m2 := beq_bytes (nth l k).name s
      have HD : Hid (isNm s (nth l k) = decide ((nth l k).name = s)) := Lib.hid rfl
      generalize hbd : decide ((nth l k).name = s) = bd at *
      clear hbd
      cases bd
      · go_wp2
        exact ⟨⟨k + 1, by go_num, hlt, Lib.hid (fun j hj => by
          rcases Nat.lt_or_ge j k with h | h
          · exact HS.out j h
          · obtain rfl : j = k := by omega
            exact HD.out), by first | exact hb | exact bthen hb (by go_grown)⟩, by simp [intOf]; omega⟩
      · go_wp2
        go_ret
        exact Gives.int (findI_hit HS.out Hkl.out HD.out) (by first | exact hb | exact bthen hb (by go_grown))
    · obtain rfl : k = n := by omega
      go_wp2
      go_ret
      exact Gives.int (findI_none (by rw [← Hn.out]; exact HS.out)) hb
set_option maxHeartbeats 1000000 in
theorem l22Like_c (v u : Value) (l : List Item) (p : List Int) (w : World) (hv : ItemsAt w v l) (hu : IntsAt w u p) :
    Calls Try.prog 84 #[v, u] w (Gives (.int .i64 (findI (isPt p) l)) w) := by
  obtain ⟨a, n, cap, rfl, hn, hl, hm, hc⟩ := hv
  have HU := Lib.hid hu
  have Hc := Lib.hid hc; clear hc
  have Hn := Lib.hid hn; clear hn
  obtain ⟨ua, un, uc, rfl, -⟩ := hu
  go_enter Try.func84, Try.ntmps84
  go_wp2
  go_loopw [5] (fun i wr => ∃ k : Nat, i = .int .i64 k ∧ k ≤ n ∧ Hid (∀ j, j < k → isPt p (nth l j) = false) ∧ Below w.heap.size w wr) (fun i _ => n - (intOf i).toNat)
  case atStart => exact ⟨0, rfl, Nat.zero_le _, Lib.hid (fun j hj => absurd hj (Nat.not_lt_zero _)), Below.refl _ _⟩
  case round =>
    obtain ⟨k, rfl, hk, HS, hb⟩ := hrel
    by_cases hlt : k < n
    · have Hkl : Hid (k < l.length) := Lib.hid (by rw [← Hn.out]; exact hlt)
      obtain ⟨b, o, pa, pn, pc, rfl, hbs, hsz, hp, c0, c1⟩ := item_cells (Hc.out.below hb) k Hkl.out
      have HP := Lib.hid hp; clear hp
      have HD : Hid (isPt p (nth l k) = same2 eqI (nth l k).pattern p) := Lib.hid rfl
      have HQ := Lib.hid (fun W x y => sSame_c (.slice pa pn pc) (.slice ua un uc) (nth l k).pattern p W x y)
      generalize hbd : same2 eqI (nth l k).pattern p = bd at *
      clear hbd
      cases bd
      · go_wp2_with fail
        refine (HQ.out _ (HP.out.below (by first | exact Below.refl _ _ | go_grown)) (HU.out.below (by first | exact hb | exact bthen hb (by go_grown)))).mono ?_
        rintro e w1 ⟨rfl, hb1⟩
        have hb2 : Below w.heap.size w w1 := bthen (by first | exact hb | exact bthen hb (by go_grown)) hb1
        go_wp2
        exact ⟨⟨k + 1, by go_num, hlt, Lib.hid (fun j hj => by
          rcases Nat.lt_or_ge j k with h | h
          · exact HS.out j h
          · obtain rfl : j = k := by omega
            exact HD.out), hb2⟩, by simp [intOf]; omega⟩
      · go_wp2_with fail
        refine (HQ.out _ (HP.out.below (by first | exact Below.refl _ _ | go_grown)) (HU.out.below (by first | exact hb | exact bthen hb (by go_grown)))).mono ?_
        rintro e w1 ⟨rfl, hb1⟩
        have hb2 : Below w.heap.size w w1 := bthen (by first | exact hb | exact bthen hb (by go_grown)) hb1
        go_wp2
        go_ret
        exact Gives.int (findI_hit HS.out Hkl.out HD.out) hb2
    · obtain rfl : k = n := by omega
      go_wp2
      go_ret
      exact Gives.int (findI_none (by rw [← Hn.out]; exact HS.out)) hb
set_option maxHeartbeats 1000000 in
theorem itemWith_c (v u : Value) (l : List Item) (p : List Int) (w : World) (hv : ItemsAt w v l) (hu : IntsAt w u p) :
    Calls Try.prog 90 #[v, u] w (Gives (.int .i64 (findI (isPt p) l)) w) := by
  obtain ⟨a, n, cap, rfl, hn, hl, hm, hc⟩ := hv
  have HU := Lib.hid hu
  have Hc := Lib.hid hc; clear hc
  have Hn := Lib.hid hn; clear hn
  obtain ⟨ua, un, uc, rfl, -⟩ := hu
  go_enter Try.func90, Try.ntmps90
  go_wp2
  go_loopw [9] (fun i wr => ∃ k : Nat, i = .int .i64 k ∧ k ≤ n ∧ Hid (∀ j, j < k → isPt p (nth l j) = false) ∧ Below w.heap.size w wr) (fun i _ => n - (intOf i).toNat)
  case atStart => exact ⟨0, rfl, Nat.zero_le _, Lib.hid (fun j hj => absurd hj (Nat.not_lt_zero _)), Below.refl _ _⟩
  case round =>
    obtain ⟨k, rfl, hk, HS, hb⟩ := hrel
    by_cases hlt : k < n
    · have Hkl : Hid (k < l.length) := Lib.hid (by rw [← Hn.out]; exact hlt)
      obtain ⟨b, o, pa, pn, pc, rfl, hbs, hsz, hp, c0, c1⟩ := item_cells (Hc.out.below hb) k Hkl.out
      have HP := Lib.hid hp; clear hp
      have HD : Hid (isPt p (nth l k) = same2 eqI (nth l k).pattern p) := Lib.hid rfl
      have HQ := Lib.hid (fun W x y => iSame_c (.slice pa pn pc) (.slice ua un uc) (nth l k).pattern p W x y)
      generalize hbd : same2 eqI (nth l k).pattern p = bd at *
      clear hbd
      cases bd
      · go_wp2_with fail
        refine (HQ.out _ (HP.out.below (by first | exact Below.refl _ _ | go_grown)) (HU.out.below (by first | exact hb | exact bthen hb (by go_grown)))).mono ?_
        rintro e w1 ⟨rfl, hb1⟩
        have hb2 : Below w.heap.size w w1 := bthen (by first | exact hb | exact bthen hb (by go_grown)) hb1
        go_wp2
        exact ⟨⟨k + 1, by go_num, hlt, Lib.hid (fun j hj => by
          rcases Nat.lt_or_ge j k with h | h
          · exact HS.out j h
          · obtain rfl : j = k := by omega
            exact HD.out), hb2⟩, by simp [intOf]; omega⟩
      · go_wp2_with fail
        refine (HQ.out _ (HP.out.below (by first | exact Below.refl _ _ | go_grown)) (HU.out.below (by first | exact hb | exact bthen hb (by go_grown)))).mono ?_
        rintro e w1 ⟨rfl, hb1⟩
        have hb2 : Below w.heap.size w w1 := bthen (by first | exact hb | exact bthen hb (by go_grown)) hb1
        go_wp2
        go_ret
        exact Gives.int (findI_hit HS.out Hkl.out HD.out) hb2
    · obtain rfl : k = n := by omega
      go_wp2
      go_ret
      exact Gives.int (findI_none (by rw [← Hn.out]; exact HS.out)) hb

def GivesItems (l : List Item) (w : World) (e : Ending) (w' : World) : Prop := ∃ a n c, e = .returned (.slice a n c) ∧ OwnItems w' w.heap.size (.slice a n c) l ∧ Below w.heap.size w w'
theorem own_items_empty (w : World) : OwnItems (w.alloc (.cells #[] 93)) w.heap.size (.slice (some ⟨w.heap.size, 0, none⟩) 0 0) [] :=
  ⟨[], rfl, World.ownsRow_lit w #[] 0 (Nat.le_refl _) (by decide) rfl, fun _ h => absurd h List.not_mem_nil, List.Pairwise.nil⟩
theorem itemInfo0 : (Try.prog.info? 93).map (fun i => (i.zero, i.size, i.bytes)) = some (some (.agg #[.string ByteArray.empty, .slice none 0 0]), 2, 40) := by kernel_rfl
theorem items_one (ps : List (Value × Item)) (h : ∀ p ∈ ps, ∃ pa pn pc, p.1 = .slice pa pn pc) : ∀ u ∈ ps.flatMap (fun p => itemS.enc p.1 p.2), u.oneCell' = true := by
  intro u hu
  obtain ⟨p, hp, hu⟩ := List.mem_flatMap.1 hu
  obtain ⟨pa, pn, pc, e⟩ := h p hp
  simp only [itemS, List.mem_cons, List.not_mem_nil, or_false] at hu
  rcases hu with rfl | rfl
  · rfl
  · rw [e]; rfl
/-- 'append(out, items..)' in a region that draws its order. -/
theorem step_app_items {w : World} {ops : Array Oper} {o : Oper} {a : Act} {K : Act → World → Prop} {Q : Exit → Act → World → Prop} {E : Prop} (hgd : o.guard = none) (s x : Operand)
    (ho : o.op = .call { callee := .builtin .append, args := #[s, x], argTypes := #[45, 45] })
    (base : Nat) (v : Value) (n : Nat) (xs : List Value) (hs : a.eval s = v) (hown : w.ownsRow base 93 2 v n xs)
    (A : Option Addr) (m c : Nat) (news : List Value) (hx : a.eval x = .slice A m c) (hr : Reads w w.heap.size 2 A m news) (h1 : ∀ u ∈ news, u.oneCell' = true)
    (hsz : n + m ≤ 1073741824) (hbase : base ≤ w.heap.size)
    (h : ∀ a' n' c' w', w'.ownsRow base 93 2 (.slice a' n' c') (n + m) (xs ++ news) → w.grownBy w' v.ownBlock → ((Value.slice a' n' c').ownBlock = v.ownBlock ∨ (Value.slice a' n' c').ownBlock = some w.heap.size) → K (a.put o.dst (.slice a' n' c')) w') :
    if Region.wanted o (yielded ops a.tmps) = true then Oper.wp Try.prog o a w K Q else E := by
  obtain ⟨i0, hi, hz0, hz1, hz2⟩ := info_parts itemInfo0
  refine step_append_any w hgd s x 45 ho base 93 i0 _ 2 40 Try.underlying45 hi hz0 hz1 hz2 rfl (by decide) v n xs hs hown w.heap.size A m c news hx hr h1 (by unfold maxLen; omega) (by omega) hbase ?_
  intro v' w' hown' hg hb
  obtain ⟨a', c', rfl⟩ := slice_of_own hown'
  exact h a' _ c' w' hown' hg hb
theorem wpList_app_items {w : World} {ops : Array Oper} {rest : List Oper} {o : Oper} {a : Act} {Q : Exit → Act → World → Prop} (hgd : o.guard = none) (s x : Operand)
    (ho : o.op = .call { callee := .builtin .append, args := #[s, x], argTypes := #[45, 45] })
    (base : Nat) (v : Value) (n : Nat) (xs : List Value) (hs : a.eval s = v) (hown : w.ownsRow base 93 2 v n xs)
    (A : Option Addr) (m c : Nat) (news : List Value) (hx : a.eval x = .slice A m c) (hr : Reads w w.heap.size 2 A m news) (h1 : ∀ u ∈ news, u.oneCell' = true)
    (hsz : n + m ≤ 1073741824) (hbase : base ≤ w.heap.size)
    (h : ∀ a' n' c' w', n' = n + m → w'.ownsRow base 93 2 (.slice a' n' c') (n + m) (xs ++ news) → w.grownBy w' v.ownBlock → ((Value.slice a' n' c').ownBlock = v.ownBlock ∨ (Value.slice a' n' c').ownBlock = some w.heap.size) → wpList Try.prog ops Q rest (a.put o.dst (.slice a' n' c')) w') :
    wpList Try.prog ops Q (o :: rest) a w := by
  obtain ⟨i0, hi, hz0, hz1, hz2⟩ := info_parts itemInfo0
  refine wpList_append_any w hgd s x 45 ho base 93 i0 _ 2 40 Try.underlying45 hi hz0 hz1 hz2 rfl (by decide) v n xs hs hown w.heap.size A m c news hx hr h1 (by unfold maxLen; omega) (by omega) hbase ?_
  intro v' w' hown' hg hb
  obtain ⟨a', c', rfl⟩ := slice_of_own hown'
  exact h a' _ c' w' rfl hown' hg hb
theorem item_new (w : World) (nm : ByteArray) (u : Value) (t : TypeId) : Reads (w.alloc (.cells #[.string nm, u] t)) (w.alloc (.cells #[.string nm, u] t)).heap.size 2 (some ⟨w.heap.size, 0, none⟩) 1 [.string nm, u] := by
  refine ⟨rfl, fun _ => ⟨_, rfl, by simp, fun j x hx => ?_⟩⟩
  have ea : (⟨w.heap.size, 0, none⟩ : Addr).add j = ⟨w.heap.size, j, none⟩ := by unfold Addr.add; split <;> simp_all
  rw [ea, World.cell?_alloc_at _ _ _ _ rfl]
  simpa using hx
end Go.Proofs.Ythnkhpebaeloeaa
