import Derived.Test.YtclffohjpbmnbaaGreatDoorMg28
import Derived.Test.YtclffohjpbmnbaaGreatDoorMg26
/- WalkA: the search of the package spec: all of it. -/
namespace Go.Proofs.YtclffohjpbmnbaaGreatDoor
open Go.ChangeShapes Go.WideShapes Go.ChangeAt Go.RowKit

section
variable {w00 : World} {q : Query} {y z bv : Value} {behind : List Int} {n H b qb g : Nat}
theorem walk_all (C : WCtx w00 q y z bv behind n H b qb g) (most : Int) : ∀ d, WalkSpec q bv behind n H w00 b qb g most d
  | 0 => fun pre left w nv ov ps v c hd hg hI hb0 hv hps hps2 hcv => walk_leaf C most pre left w nv ov ps v c (by simpa using hd) hg hI hb0 (by omega) hps2 hcv
  | d + 1 => fun pre left w nv ov ps v c hd hg hI hb0 hv hps hps2 hcv => by
    by_cases hout : stopB most (v + 1) (ps.map (·.2)) = true ∨ left < 0 ∨ (H : Int) * ((d + 1 : Nat) : Int) < left
    · exact walk_out C most d pre left w nv ov ps v c hd hg hI hb0 (by omega) hout
    · refine walk_loop C most d (walk_all C most d) pre left w nv ov ps v c hd hg hI hb0 hv hps hps2 hcv ?_ (fun h => hout (.inr (.inl h))) (fun h => hout (.inr (.inr h)))
      cases hs : stopB most (v + 1) (ps.map (·.2))
      · rfl
      · exact absurd (.inl hs) hout
end
theorem bigB_le (n : Nat) (h : n ≤ 12) : bigB n ≤ 1152921504606846976 := by
  have : ∀ d, d < 13 → bigB d ≤ 1152921504606846976 := by decide
  exact this n (by omega)
theorem boolInfo' : ∃ i0, Tryz.prog.info? 4 = some i0 ∧ i0.zero = some (.bool false) ∧ i0.size = 1 ∧ i0.bytes = 1 := by
  obtain ⟨i0, h1, h2, h3, h4⟩ := info_parts (show (Tryz.prog.info? 4).map (fun i => (i.zero, i.size, i.bytes)) = some (some (.bool false), 1, 1) by kernel_rfl)
  exact ⟨i0, h1, h2, h3, h4⟩
theorem WalkAt.of_box {w : World} {b qb : Nat} {uv nv bv ov : Value} {most : Int} (h : BoxIs w b [.pointer (some ⟨qb, 0, none⟩), uv, nv, .int .i64 0, .int .i64 0, .int .i64 most, bv, ov, .int .i64 0]) :
    WalkAt w b qb uv nv bv ov 0 0 most 0 := by
  obtain ⟨h1, h2, h3⟩ := h
  exact ⟨h1, h2 0, h2 1, h2 2, h2 3, h2 4, h2 5, h2 6, h2 7, h2 8, h3⟩
def walkedR (q : Query) (most : Int) (behind : List Int) : WSt := walkR q q.period.toNat q.high.toNat most behind q.period.toNat [] (q.props * q.period) 0 [] 0
def WalkedPost (w : World) (q : Query) (most : Int) (behind : List Int) (qb : Nat) (bv : Value) (e : Ending) (w' : World) : Prop :=
  ∃ b g nv ov ps, e = .returned (.pointer (some ⟨b, 0, none⟩)) ∧ WInv w' w.heap.size b qb g q.period.toNat nv bv ov ps [] (takenF q.period.toNat []) 0 (walkedR q most behind).v most (walkedR q most behind).c ∧ ps.map (·.2) = (walkedR q most behind).o ∧ Below w.heap.size w w'
set_option maxRecDepth 100000 in
set_option maxHeartbeats 4000000 in
theorem l21Walk_c (q : Query) (y z bv : Value) (behind : List Int) (most : Int) (qb : Nat) (w : World) (hB : BoxIs w qb [.int .i64 q.period, .int .i64 q.props, .int .i64 q.high, y, z, .bool q.canonical]) (hQ : QAt w q y z) (hbe : IntsAt w bv behind) (hbl : behind = [] ∨ (behind.length : Int) = q.period) (ho : okQueryB q = true) :
    Calls Tryz.prog 48 #[.pointer (some ⟨qb, 0, none⟩), .int .i64 most, bv] w (WalkedPost w q most behind qb bv) := by
  obtain ⟨n, H, hqn, hqH, hn1, hn12, hH, hp0, hp15⟩ := okQuery_in ho
  have hn : q.period.toNat = n := by rw [hqn]; simp
  have hHH : q.high.toNat = H := by rw [hqH]; simp
  have HRR : Hid (walkR q n H most behind n [] (q.props * (n : Int)) 0 [] 0 = walkedR q most behind) := Lib.hid (by unfold walkedR; rw [hn, hHH, hqn])
  have HV := Lib.hid (fun (b g : Nat) (hb : w.heap.size ≤ b) (hg : w.heap.size ≤ g) => walk_all (b := b) (g := g) ⟨hqn, hqH, hn1, hn12, hH, hp0, hp15, hB, hQ, hbe, hbl.imp id (fun h => by rw [hqn] at h; omega), hb, hg⟩ most n)
  have HG := Lib.hid (good_start q n)
  have HN := Lib.hid hn
  have HBG := Lib.hid (bigB_le n hn12)
  have q0 := hB.2.1 0
  rw [hqn] at q0
  replace q0 : w.cell? ⟨qb, 0, none⟩ = some (.int .i64 (n : Int)) := q0
  obtain ⟨ba, bn, bc, rfl, -, -, -, -⟩ := hbe
  obtain ⟨i0, hi0, hz0, hz1, hz2⟩ := boolInfo'
  obtain ⟨w1, hmk, hown, hgr⟩ := run_make_full (P := Tryz.prog) w w.heap.size 69 4 i0 _ 1 Tryz.underlying69 hi0 hz0 hz1 .i64 .i64 n (by rw [hz2]; omega) (by unfold maxLen; omega) (Nat.le_refl _)
  have hb1 : Below w.heap.size w w1 := (Below.refl _ _).grown hgr (Nat.le_refl _) (fun k h => by cases h)
  have HU : Hid (UsedAt w1 w.heap.size w.heap.size n (fun _ => false)) := Lib.hid (by
    unfold UsedAt
    rw [show (madeCells (Value.bool false).cells (n * 1)).toList = (List.range n).map (fun _ => Value.bool false) by
      rw [show (Value.bool false).cells = #[Value.bool false] from rfl, toList_madeCells_one, Nat.mul_one, List.map_const', List.length_range]] at hown
    exact hown)
  clear hown hgr hi0 hz0 hz1 hz2 hn hHH hqn hqH ho hB hQ hbl
  go_enter Tryz.func48, Tryz.ntmps48
  go_wp2_with fail
  generalize hG : (w1.alloc (.cells #[] 24)).alloc (.cells #[.pointer (some ⟨qb, 0, none⟩), .slice (some ⟨w.heap.size, 0, none⟩) n n, .slice none 0 0, .int .i64 0, .int .i64 0, .int .i64 most, .slice ba bn bc, .slice (some ⟨w1.heap.size, 0, none⟩) 0 0, .int .i64 0] 71) = w2 at *
  have hs1 := hb1.size
  have hb2 : Below w.heap.size w w2 := by rw [← hG]; exact (hb1.alloc hs1 _).alloc (by simp; omega) _
  have HBx : Hid (WalkAt w2 (w1.heap.size + 1) qb (.slice (some ⟨w.heap.size, 0, none⟩) n n) (.slice none 0 0) (.slice ba bn bc) (.slice (some ⟨w1.heap.size, 0, none⟩) 0 0) 0 0 most 0) := Lib.hid (WalkAt.of_box (by rw [← hG]; exact BoxIs.new' (b := w1.heap.size + 1) (by simp) _ _))
  have HO : Hid (w2.ownsRow w.heap.size 24 1 (.slice (some ⟨w1.heap.size, 0, none⟩) 0 0) 0 []) := Lib.hid (by
    rw [← hG]
    have h := (World.ownsRow_lit (e := 24) (size := 1) w1 #[] 0 (Nat.le_refl _) (by decide) rfl).alloc (.cells #[.pointer (some ⟨qb, 0, none⟩), .slice (some ⟨w.heap.size, 0, none⟩) n n, .slice none 0 0, .int .i64 0, .int .i64 0, .int .i64 most, .slice ba bn bc, .slice (some ⟨w1.heap.size, 0, none⟩) 0 0, .int .i64 0] 71)
    have h2 := own_mono (base := w.heap.size) h hs1
    simpa using h2)
  have HU2 : Hid (UsedAt w2 w.heap.size w.heap.size n (fun _ => false)) := Lib.hid (by
    rw [← hG]
    exact own_below (own_below HU.out (go_below_alloc' _ _)) (go_below_alloc' _ _))
  have hlt : w.heap.size < w1.heap.size := (World.ownsRow.lt HU.out w.heap.size rfl).2
  have htk : (fun _ : Nat => false) = takenF n [] := by funext j; simp [takenF, landN]
  rw [htk] at HU2
  have hI : WInv w2 w.heap.size (w1.heap.size + 1) qb w.heap.size n (.slice none 0 0) (.slice ba bn bc) (.slice (some ⟨w1.heap.size, 0, none⟩) 0 0) [] [] (takenF n []) (sumF [] 0) 0 most 0 :=
    ⟨HBx.out, HU2.out, by omega, ⟨_, _, _, rfl⟩, World.ownsRow_nil _ _ _ _, by simp [Value.ownBlock], by simp [Value.ownBlock], ⟨_, _, _, rfl⟩, HO.out, by simp [Value.ownBlock], by simp [Value.ownBlock]; omega, fun g hg => by simp [Value.ownBlock] at hg, fun _ h => absurd h List.not_mem_nil, fun _ h => absurd h List.not_mem_nil, fun _ h => absurd h List.not_mem_nil, fun _ h => absurd h List.not_mem_nil, fun _ h => absurd h List.not_mem_nil, fun _ h => absurd h List.not_mem_nil, List.Pairwise.nil⟩
  have HC := Lib.hid (HV.out (w1.heap.size + 1) w.heap.size (by omega) (Nat.le_refl _) [] (q.props * (n : Int)) w2 _ _ [] 0 0 (by simp) HG.out hI hb2 (by have := HBG.out; omega) (by simp) (by simp) (by omega))
  clear hG htk hI HBx HO HU2 HU hmk q0
  refine HC.out.mono ?_
  rintro e w3 ⟨rfl, nv, ov, ps, hI3, hF3, hb3⟩
  clear HC HV
  rw [show (([] : List (Value × List Int)).map (·.2)) = [] from rfl, HRR.out] at hI3 hF3
  rw [← HN.out] at hI3
  go_wp2
  go_ret
  exact ⟨_, _, _, _, ps, rfl, hI3, hF3, hb3⟩
end Go.Proofs.YtclffohjpbmnbaaGreatDoor

/- SearchP: both searches agree (plain), and the counting search of the package spec. -/
namespace Go.Proofs.YtclffohjpbmnbaaGreatDoor
open Go.ChangeShapes Go.WideShapes Go.ChangeAt Go.RowKit

def treeR (q : Query) : Nat × List (List Int) := tree (matchB q) (frB q q.period.toNat) q.high.toNat q.period.toNat [] (q.props * q.period)
theorem search_tree {q : Query} : ((treeR q).1 ≤ 20000 → searchR q = ⟨(treeR q).1, (treeR q).2⟩) ∧ (20000 < (treeR q).1 → 20000 < (searchR q).v) := by
  have h := hunt_tree (M := matchB q) (fr := frB q q.period.toNat) (H := q.high.toNat) q.period.toNat [] (q.props * q.period) ⟨0, []⟩ (by simp)
  have e : searchR q = huntF (matchB q) (frB q q.period.toNat) q.high.toNat q.period.toNat [] (q.props * q.period) ⟨0, []⟩ := by unfold searchR huntR; rw [Int.mul_comm]
  rw [e]
  simpa [treeR] using h
theorem walked_tree {q : Query} (ho : okQueryB q = true) : ((treeR q).1 ≤ 20000 → walkedR q (-1) [] = ⟨(treeR q).1, [], (treeR q).2.length⟩) ∧ (20000 < (treeR q).1 → 20000 < (walkedR q (-1) []).v) := by
  obtain ⟨n, H, hqn, hqH, hn1, hn12, hH, hp0, hp15⟩ := okQuery_in ho
  have hn : q.period.toNat = n := by rw [hqn]; simp
  have hHH : q.high.toNat = H := by rw [hqH]; simp
  have h := walk_count (M := matchB q) (fr := frB q n) (H := H) (n := n) (G := Good q n) (good_step H hqH.symm) (fun pre left => good_leaf hn1 pre left) n [] (q.props * (n : Int)) ⟨0, [], 0⟩ (by simp) (good_start q n)
  unfold walkedR walkR treeR
  rw [hn, hHH, hqn]
  simpa using h
theorem walked_take {q : Query} (ho : okQueryB q = true) {most : Int} {behind : List Int} (hm : 0 ≤ most) (hbl : behind = [] ∨ (behind.length : Int) = q.period) (ht : (treeR q).1 ≤ 20000) : (walkedR q most behind).o = ((treeR q).2.filter (behB behind)).take most.toNat := by
  obtain ⟨n, H, hqn, hqH, hn1, hn12, hH, hp0, hp15⟩ := okQuery_in ho
  have hn : q.period.toNat = n := by rw [hqn]; simp
  have hHH : q.high.toNat = H := by rw [hqH]; simp
  unfold treeR at ht
  rw [hn, hHH, hqn] at ht
  have h := walk_take (M := matchB q) (fr := frB q n) (H := H) (n := n) (G := Good q n) (most := most) (behind := behind) hm (hbl.imp id (fun h => by rw [hqn] at h; omega)) (good_step H hqH.symm) (fun pre left => good_leaf hn1 pre left) n [] (q.props * (n : Int)) ⟨0, [], 0⟩ (by simp) (good_start q n) (by simpa using hm) (by simpa using ht)
  unfold walkedR walkR treeR
  rw [hn, hHH, hqn]
  simpa using h.2
def searchCode (q : Query) : Int := if okQueryB q = true then (if (treeR q).1 ≤ 20000 then 0 else 5) else 1
theorem searchCode_1 {q : Query} (h : okQueryB q = false) : searchCode q = 1 := by unfold searchCode; rw [h]; rfl
theorem searchCode_5 {q : Query} (h : okQueryB q = true) (h2 : 20000 < (treeR q).1) : searchCode q = 5 := by unfold searchCode; rw [if_pos h, if_neg (by omega)]
theorem searchCode_0 {q : Query} (h : okQueryB q = true) (h2 : (treeR q).1 ≤ 20000) : searchCode q = 0 := by unfold searchCode; rw [if_pos h, if_pos h2]
theorem ints_nil (w : World) : IntsAt w (.slice none 0 0) [] := ⟨none, 0, 0, rfl, rfl, Nat.le_refl _, by decide, fun i hi => absurd hi (by simp)⟩
def AllPost (w : World) (q : Query) (e : Ending) (w' : World) : Prop :=
  Below w.heap.size w w' ∧ ((okQueryB q = false ∧ ∃ p, e = .returned (.tuple #[.pointer (some p), .int .i64 1])) ∨
    (okQueryB q = true ∧ ∃ b, e = .returned (.tuple #[.pointer (some ⟨b, 0, none⟩), .int .i64 (searchCode q)]) ∧ (searchCode q = 0 → w'.cell? ⟨b, 4, none⟩ = some (.int .i64 ((treeR q).1 : Int)) ∧ w'.cell? ⟨b, 8, none⟩ = some (.int .i64 ((treeR q).2.length : Int)))))
set_option maxRecDepth 100000 in
set_option maxHeartbeats 2000000 in
theorem l21All_c (q : Query) (y z : Value) (qb : Nat) (w : World) (hB : BoxIs w qb [.int .i64 q.period, .int .i64 q.props, .int .i64 q.high, y, z, .bool q.canonical]) (hQ : QAt w q y z) :
    Calls Tryz.prog 57 #[.pointer (some ⟨qb, 0, none⟩)] w (AllPost w q) := by
  have HB := Lib.hid hB
  have HQ := Lib.hid hQ
  have HK := Lib.hid (l21Ok_c q y z qb w hB hQ)
  clear hB hQ
  generalize hm : okQueryB q = m at *
  cases m
  · have HO := Lib.hid hm
    clear hm
    go_enter Tryz.func57, Tryz.ntmps57
    go_wp2_with fail
    refine HK.out.mono ?_
    rintro e w1 ⟨rfl, hb1⟩
    clear HK HB HQ
    go_wp2
    go_ret2
    exact ⟨hb1.alloc hb1.size _, .inl ⟨HO.out, _, rfl⟩⟩
  · have HO := Lib.hid hm
    clear hm
    go_enter Tryz.func57, Tryz.ntmps57
    go_wp2_with fail
    refine HK.out.mono ?_
    rintro e w1 ⟨rfl, hb1⟩
    have HW := Lib.hid (l21Walk_c q y z (.slice none 0 0) [] (-1) qb w1 (HB.out.below hb1) (HQ.out.below hb1) (ints_nil w1) (.inl rfl) HO.out)
    have HT := Lib.hid (walked_tree HO.out)
    clear HK HB HQ
    go_wp2_with fail
    refine HW.out.mono ?_
    rintro e w2 ⟨b, g, nv, ov, ps, rfl, hI, hF, hb2⟩
    clear HW
    have c4 := hI.box.c4
    have c8 := hI.box.c8
    have hb := bthen hb1 hb2
    clear hI hF hb2 hb1
    by_cases ht : (treeR q).1 ≤ 20000
    · rw [HT.out.1 ht] at c4 c8
      dsimp only at c4 c8
      have HC := Lib.hid (searchCode_0 HO.out ht)
      have h4 := Lib.hid c4; have h8 := Lib.hid c8
      have hd : decide ((20000 : Int) < ((treeR q).1 : Int)) = false := decide_eq_false (by omega)
      clear HT ht
      go_wp2
      go_ret2
      exact ⟨hb, .inr ⟨HO.out, b, by rw [HC.out]; rfl, fun _ => ⟨h4.out, h8.out⟩⟩⟩
    · have hv := HT.out.2 (by omega)
      have HC := Lib.hid (searchCode_5 HO.out (by omega : 20000 < (treeR q).1))
      have hd : decide ((20000 : Int) < ((walkedR q (-1) []).v : Int)) = true := decide_eq_true (by omega)
      clear HT ht hv
      go_wp2
      go_ret2
      exact ⟨hb, .inr ⟨HO.out, b, by rw [HC.out]; rfl, fun h => absurd h (by rw [HC.out]; decide)⟩⟩
end Go.Proofs.YtclffohjpbmnbaaGreatDoor
