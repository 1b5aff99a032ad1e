import Derived.Test.YtoaegfoapkmdnaaMg27
/- SearchP: both searches agree (plain), and the counting search of the package spec. -/
namespace Go.Proofs.Ytoaegfoapkmdnaa
open Go.ChangeShapes Go.WideShapes Go.ChangeAt Go.RowKit

def treeR (q : Query) : Nat × List (List Int) := tree (matchB q) (frB q q.period.toNat) q.high.toNat q.period.toNat [] (q.props * q.period)
theorem search_tree {q : Query} : ((treeR q).1 ≤ 20000 → searchR q = ⟨(treeR q).1, (treeR q).2⟩) ∧ (20000 < (treeR q).1 → 20000 < (searchR q).v) := by
  have h := hunt_tree (M := matchB q) (fr := frB q q.period.toNat) (H := q.high.toNat) q.period.toNat [] (q.props * q.period) ⟨0, []⟩ (by simp)
  have e : searchR q = huntF (matchB q) (frB q q.period.toNat) q.high.toNat q.period.toNat [] (q.props * q.period) ⟨0, []⟩ := by unfold searchR huntR; rw [Int.mul_comm]
  rw [e]
  simpa [treeR] using h
theorem walked_tree {q : Query} (ho : okQueryB q = true) : ((treeR q).1 ≤ 20000 → walkedR q (-1) [] = ⟨(treeR q).1, [], (treeR q).2.length⟩) ∧ (20000 < (treeR q).1 → 20000 < (walkedR q (-1) []).v) := by
  obtain ⟨n, H, hqn, hqH, hn1, hn12, hH, hp0, hp15⟩ := okQuery_in ho
  have hn : q.period.toNat = n := by rw [hqn]; simp
  have hHH : q.high.toNat = H := by rw [hqH]; simp
  have h := walk_count (M := matchB q) (fr := frB q n) (H := H) (n := n) (G := Good q n) (good_step H hqH.symm) (fun pre left => good_leaf hn1 pre left) n [] (q.props * (n : Int)) ⟨0, [], 0⟩ (by simp) (good_start q n)
  unfold walkedR walkR treeR
  rw [hn, hHH, hqn]
  simpa using h
theorem walked_take {q : Query} (ho : okQueryB q = true) {most : Int} {behind : List Int} (hm : 0 ≤ most) (hbl : behind = [] ∨ (behind.length : Int) = q.period) (ht : (treeR q).1 ≤ 20000) : (walkedR q most behind).o = ((treeR q).2.filter (behB behind)).take most.toNat := by
  obtain ⟨n, H, hqn, hqH, hn1, hn12, hH, hp0, hp15⟩ := okQuery_in ho
  have hn : q.period.toNat = n := by rw [hqn]; simp
  have hHH : q.high.toNat = H := by rw [hqH]; simp
  unfold treeR at ht
  rw [hn, hHH, hqn] at ht
  have h := walk_take (M := matchB q) (fr := frB q n) (H := H) (n := n) (G := Good q n) (most := most) (behind := behind) hm (hbl.imp id (fun h => by rw [hqn] at h; omega)) (good_step H hqH.symm) (fun pre left => good_leaf hn1 pre left) n [] (q.props * (n : Int)) ⟨0, [], 0⟩ (by simp) (good_start q n) (by simpa using hm) (by simpa using ht)
  unfold walkedR walkR treeR
  rw [hn, hHH, hqn]
  simpa using h.2
def searchCode (q : Query) : Int := if okQueryB q = true then (if (treeR q).1 ≤ 20000 then 0 else 5) else 1
theorem searchCode_1 {q : Query} (h : okQueryB q = false) : searchCode q = 1 := by unfold searchCode; rw [h]; rfl
theorem searchCode_5 {q : Query} (h : okQueryB q = true) (h2 : 20000 < (treeR q).1) : searchCode q = 5 := by unfold searchCode; rw [if_pos h, if_neg (by omega)]
theorem searchCode_0 {q : Query} (h : okQueryB q = true) (h2 : (treeR q).1 ≤ 20000) : searchCode q = 0 := by unfold searchCode; rw [if_pos h, if_pos h2]
theorem ints_nil (w : World) : IntsAt w (.slice none 0 0) [] := ⟨none, 0, 0, rfl, rfl, Nat.le_refl _, by decide, fun i hi => absurd hi (by simp)⟩
def AllPost (w : World) (q : Query) (e : Ending) (w' : World) : Prop :=
  Below w.heap.size w w' ∧ ((okQueryB q = false ∧ ∃ p, e = .returned (.tuple #[.pointer (some p), .int .i64 1])) ∨
    (okQueryB q = true ∧ ∃ b, e = .returned (.tuple #[.pointer (some ⟨b, 0, none⟩), .int .i64 (searchCode q)]) ∧ (searchCode q = 0 → w'.cell? ⟨b, 4, none⟩ = some (.int .i64 ((treeR q).1 : Int)) ∧ w'.cell? ⟨b, 8, none⟩ = some (.int .i64 ((treeR q).2.length : Int)))))
set_option maxRecDepth 100000 in
set_option maxHeartbeats 2000000 in
theorem l21All_c (q : Query) (y z : Value) (qb : Nat) (w : World) (hB : BoxIs w qb [.int .i64 q.period, .int .i64 q.props, .int .i64 q.high, y, z, .bool q.canonical]) (hQ : QAt w q y z) :
    Calls Try.prog 27 #[.pointer (some ⟨qb, 0, none⟩)] w (AllPost w q) := by
  have HB := Lib.hid hB
  have HQ := Lib.hid hQ
  have HK := Lib.hid (l21Ok_c q y z qb w hB hQ)
  clear hB hQ
  generalize hm : okQueryB q = m at *
  cases m
  · have HO := Lib.hid hm
    clear hm
    go_enter Try.func27, Try.ntmps27
    go_wp2_with fail
    refine HK.out.mono ?_
    rintro e w1 ⟨rfl, hb1⟩
    clear HK HB HQ
    go_wp2
    go_ret2
    exact ⟨hb1.alloc hb1.size _, .inl ⟨HO.out, _, rfl⟩⟩
  · have HO := Lib.hid hm
    clear hm
    go_enter Try.func27, Try.ntmps27
    go_wp2_with fail
    refine HK.out.mono ?_
    rintro e w1 ⟨rfl, hb1⟩
    have HW := Lib.hid (l21Walk_c q y z (.slice none 0 0) [] (-1) qb w1 (HB.out.below hb1) (HQ.out.below hb1) (ints_nil w1) (.inl rfl) HO.out)
    have HT := Lib.hid (walked_tree HO.out)
    clear HK HB HQ
    go_wp2_with fail
    refine HW.out.mono ?_
    rintro e w2 ⟨b, g, nv, ov, ps, rfl, hI, hF, hb2⟩
    clear HW
    have c4 := hI.box.c4
    have c8 := hI.box.c8
    have hb := bthen hb1 hb2
    clear hI hF hb2 hb1
    by_cases ht : (treeR q).1 ≤ 20000
    · rw [HT.out.1 ht] at c4 c8
      dsimp only at c4 c8
      have HC := Lib.hid (searchCode_0 HO.out ht)
      have h4 := Lib.hid c4; have h8 := Lib.hid c8
      have hd : decide ((20000 : Int) < ((treeR q).1 : Int)) = false := decide_eq_false (by omega)
      clear HT ht
      go_wp2
      go_ret2
      exact ⟨hb, .inr ⟨HO.out, b, by rw [HC.out]; rfl, fun _ => ⟨h4.out, h8.out⟩⟩⟩
    · have hv := HT.out.2 (by omega)
      have HC := Lib.hid (searchCode_5 HO.out (by omega : 20000 < (treeR q).1))
      have hd : decide ((20000 : Int) < ((walkedR q (-1) []).v : Int)) = true := decide_eq_true (by omega)
      clear HT ht hv
      go_wp2
      go_ret2
      exact ⟨hb, .inr ⟨HO.out, b, by rw [HC.out]; rfl, fun h => absurd h (by rw [HC.out]; decide)⟩⟩
end Go.Proofs.Ytoaegfoapkmdnaa
