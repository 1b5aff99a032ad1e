import Derived.Test.YtoaegfoapkmdnaaMg25
import Derived.Test.YtoaegfoapkmdnaaMg12
import Derived.Test.YtoaegfoapkmdnaaMg26
import Derived.Test.YtoaegfoapkmdnaaMg23
/- Search: a whole search of the package impl. -/
namespace Go.Proofs.Ytoaegfoapkmdnaa
open Go.ChangeShapes Go.WideShapes Go.ChangeAt Go.RowKit

theorem okQuery_in {q : Query} (h : okQueryB q = true) : ∃ n H : Nat, q.period = (n : Int) ∧ q.high = (H : Int) ∧ 1 ≤ n ∧ n ≤ 12 ∧ H ≤ 15 ∧ 0 ≤ q.props ∧ q.props ≤ 15 := by
  unfold okQueryB at h
  simp only [Bool.and_eq_true] at h
  have h1 := inB_true h.1
  have h2 := inB_true h.2.1
  have h3 := inB_true h.2.2.1
  exact ⟨q.period.toNat, q.high.toNat, by omega, by omega, by omega, by omega, by omega, by omega, by omega⟩
theorem HuntAt.of_box {w : World} {b : Nat} {q : Query} {y z lv fv : Value} (h : BoxIs w b [.int .i64 q.period, .int .i64 q.props, .int .i64 q.high, y, z, .bool q.canonical, lv, .bool false, .bool false, .bool false, .bool false, .bool false, .bool false, .bool false, .bool false, .bool false, .bool false, .bool false, .bool false, .int .i64 0, fv]) :
    HuntAt w b q y z lv (fun _ => false) 0 fv := by
  obtain ⟨h1, h2, h3⟩ := h
  refine ⟨h1, h2 0, h2 1, h2 2, h2 3, h2 4, h2 5, h2 6, fun j hj => ?_, h2 19, h2 20, h3⟩
  rw [h2 (7 + j)]
  match j, hj with
  | 0, _ => rfl
  | 1, _ => rfl
  | 2, _ => rfl
  | 3, _ => rfl
  | 4, _ => rfl
  | 5, _ => rfl
  | 6, _ => rfl
  | 7, _ => rfl
  | 8, _ => rfl
  | 9, _ => rfl
  | 10, _ => rfl
  | 11, _ => rfl
def searchR (q : Query) : HSt := huntR q q.period.toNat q.high.toNat q.period.toNat [] (q.period * q.props) 0 []
def SearchedPost (w : World) (q : Query) (y z : Value) (e : Ending) (w' : World) : Prop :=
  Below w.heap.size w w' ∧ ((20000 < (searchR q).v ∧ e = .returned (.tuple #[.pointer none, .int .i64 5])) ∨
    ((searchR q).v ≤ 20000 ∧ ∃ b lv fv ps, e = .returned (.tuple #[.pointer (some ⟨b, 0, none⟩), .int .i64 0]) ∧ HInv w' w.heap.size b q y z lv fv ps [] (takenF q.period.toNat []) (searchR q).v ∧ ps.map (·.2) = (searchR q).f))
theorem visit_all (q : Query) (y z : Value) (n H : Nat) (hqn : q.period = (n : Int)) (hqH : q.high = (H : Int)) (hn1 : 1 ≤ n) (hn12 : n ≤ 12) (hH : H ≤ 15) (w00 : World) (hq : QAt w00 q y z) (b : Nat) (hbb : w00.heap.size ≤ b) : ∀ d, VisitSpec q y z n H w00 b d
  | 0 => fun pre rest left w lv fv ps v hd hg hI hb0 hv hps _ _ => visit_zero q y z n H hqn hqH hn1 hn12 hH w00 hq b hbb pre rest left w lv fv ps v (by simpa using hd) hg hI hb0 hv hps
  | d + 1 => fun pre rest left w lv fv ps v hd hg hI hb0 hv hps hr0 hr1 => by
    by_cases hout : v = 20000 ∨ rest < 0 ∨ (H : Int) * ((d + 1 : Nat) : Int) < rest
    · exact visit_out q y z n H hqn hqH hn1 hn12 hH w00 b hbb d pre rest w lv fv ps v hd hI hb0 hv hr0 hr1 hout
    · exact visit_loop q y z n H hqn hqH hn1 hn12 hH w00 hq b hbb d (visit_all q y z n H hqn hqH hn1 hn12 hH w00 hq b hbb d) pre rest left w lv fv ps v hd hg hI hb0 hv hps hr1 (by omega) (by omega) (by omega)
set_option maxRecDepth 100000 in
set_option maxHeartbeats 2000000 in
theorem searched_c (q : Query) (y z : Value) (w : World) (hq : QAt w q y z) (ho : okQueryB q = true) :
    Calls Try.prog 26 #[.agg #[.int .i64 q.period, .int .i64 q.props, .int .i64 q.high, y, z, .bool q.canonical]] w (SearchedPost w q y z) := by
  obtain ⟨n, H, hqn, hqH, hn1, hn12, hH, hp0, hp15⟩ := okQuery_in ho
  have hn : q.period.toNat = n := by rw [hqn]; simp
  have hHH : q.high.toNat = H := by rw [hqH]; simp
  have HRR : Hid (huntR q n H n [] (q.period * q.props) 0 [] = searchR q) := Lib.hid (by unfold searchR; rw [hn, hHH])
  have HV := Lib.hid (fun b hbb => visit_all q y z n H hqn hqH hn1 hn12 hH w hq b hbb n)
  have HG := Lib.hid (good_start q n)
  have HN := Lib.hid hn
  have Hqn := Lib.hid hqn
  obtain ⟨m, hm⟩ : ∃ m : Int, q.period * q.props = m := ⟨_, rfl⟩
  have hm0 : 0 ≤ m := by rw [← hm, hqn]; exact Int.mul_nonneg (by omega) hp0
  have hm1 : m ≤ 180 := by rw [← hm, hqn]; exact Int.le_trans (Int.mul_le_mul (show (n : Int) ≤ 12 by omega) hp15 hp0 (by decide)) (by decide)
  have hwm : IntKind.i64.wrap (q.period * q.props) = m := by rw [hm]; exact IntWalk.i64_in _ (by omega)
  rw [hm] at HRR
  have HM := Lib.hid hm
  have hwm2 : IntKind.i64.wrap m = m := IntWalk.i64_in _ (by omega)
  clear hn hHH hqn hqH ho
  go_enter Try.func26, Try.ntmps26
  go_wp2_with fail
  generalize hG : ((w.alloc (.cells #[.int .i64 q.period, .int .i64 q.props, .int .i64 q.high, y, z, .bool q.canonical] 26)).alloc (.cells #[] 24)).alloc (.cells #[.int .i64 q.period, .int .i64 q.props, .int .i64 q.high, y, z, .bool q.canonical, .slice none 0 0, .bool false, .bool false, .bool false, .bool false, .bool false, .bool false, .bool false, .bool false, .bool false, .bool false, .bool false, .bool false, .int .i64 0, .slice (some ⟨w.heap.size + 1, 0, none⟩) 0 0] 55) = w1 at *
  have hb1 : Below w.heap.size w w1 := by rw [← hG]; go_grown
  have HB : Hid (HuntAt w1 (w.heap.size + 1 + 1) q y z (.slice none 0 0) (fun _ => false) 0 (.slice (some ⟨w.heap.size + 1, 0, none⟩) 0 0)) := Lib.hid (HuntAt.of_box (by rw [← hG]; exact BoxIs.new' (b := w.heap.size + 1 + 1) (by simp) _ _))
  have HO : Hid (w1.ownsRow w.heap.size 24 1 (.slice (some ⟨w.heap.size + 1, 0, none⟩) 0 0) 0 []) := Lib.hid (by
    rw [← hG]
    have h := (World.ownsRow_lit (e := 24) (size := 1) (w.alloc (.cells #[.int .i64 q.period, .int .i64 q.props, .int .i64 q.high, y, z, .bool q.canonical] 26)) #[] 0 (Nat.le_refl _) (by decide) rfl).alloc (.cells #[.int .i64 q.period, .int .i64 q.props, .int .i64 q.high, y, z, .bool q.canonical, .slice none 0 0, .bool false, .bool false, .bool false, .bool false, .bool false, .bool false, .bool false, .bool false, .bool false, .bool false, .bool false, .bool false, .int .i64 0, .slice (some ⟨w.heap.size + 1, 0, none⟩) 0 0] 55)
    have h2 := own_mono (base := w.heap.size) h (by simp)
    simpa using h2)
  have htk : (fun _ : Nat => false) = takenF n [] := by funext j; simp [takenF, landN]
  have hI : HInv w1 w.heap.size (w.heap.size + 1 + 1) q y z (.slice none 0 0) (.slice (some ⟨w.heap.size + 1, 0, none⟩) 0 0) [] [] (takenF n []) 0 := by
    rw [← htk]
    exact ⟨HB.out, ⟨_, _, _, rfl⟩, World.ownsRow_nil _ _ _ _, by simp [Value.ownBlock], ⟨_, _, _, rfl⟩, HO.out, by simp [Value.ownBlock], fun g hg => by simp [Value.ownBlock] at hg, fun _ h => absurd h List.not_mem_nil, fun _ h => absurd h List.not_mem_nil, fun _ h => absurd h List.not_mem_nil, fun _ h => absurd h List.not_mem_nil, fun _ h => absurd h List.not_mem_nil, List.Pairwise.nil⟩
  have HC := Lib.hid (HV.out (w.heap.size + 1 + 1) (by omega) [] m (q.props * (n : Int)) w1 _ _ [] 0 (by simp) HG.out hI hb1 (by omega) (by simp) (by omega) hm1)
  clear hG htk hI HB HO hwm hwm2
  refine HC.out.mono ?_
  rintro e w2 ⟨rfl, lv, fv, ps, hI2, hF2, hb2⟩
  clear HC HV
  rw [show (([] : List (Value × List Int)).map (·.2)) = [] from rfl, HRR.out] at hI2 hF2
  have hI2' := hI2
  rw [← HN.out] at hI2'
  have HI2 := Lib.hid hI2'
  have c19 := hI2.box.c19
  have HF := Lib.hid hF2
  clear hI2 hI2' hF2
  by_cases h20 : 20000 < (searchR q).v
  · have hd : decide ((20000 : Int) < ((searchR q).v : Int)) = true := decide_eq_true (by omega)
    have H20 := Lib.hid h20
    go_wp2
    go_ret2
    exact ⟨hb2, .inl ⟨H20.out, rfl⟩⟩
  · have hd : decide ((20000 : Int) < ((searchR q).v : Int)) = false := decide_eq_false (by omega)
    have H20 := Lib.hid h20
    go_wp2
    go_ret2
    exact ⟨hb2, .inr ⟨by have := H20.out; omega, _, _, _, ps, rfl, HI2.out, HF.out⟩⟩
end Go.Proofs.Ytoaegfoapkmdnaa

/- WalkA: the search of the package spec: all of it. -/
namespace Go.Proofs.Ytoaegfoapkmdnaa
open Go.ChangeShapes Go.WideShapes Go.ChangeAt Go.RowKit

section
variable {w00 : World} {q : Query} {y z bv : Value} {behind : List Int} {n H b qb g : Nat}
theorem walk_all (C : WCtx w00 q y z bv behind n H b qb g) (most : Int) : ∀ d, WalkSpec q bv behind n H w00 b qb g most d
  | 0 => fun pre left w nv ov ps v c hd hg hI hb0 hv hps hps2 hcv => walk_leaf C most pre left w nv ov ps v c (by simpa using hd) hg hI hb0 (by omega) hps2 hcv
  | d + 1 => fun pre left w nv ov ps v c hd hg hI hb0 hv hps hps2 hcv => by
    by_cases hout : stopB most (v + 1) (ps.map (·.2)) = true ∨ left < 0 ∨ (H : Int) * ((d + 1 : Nat) : Int) < left
    · exact walk_out C most d pre left w nv ov ps v c hd hg hI hb0 (by omega) hout
    · refine walk_loop C most d (walk_all C most d) pre left w nv ov ps v c hd hg hI hb0 hv hps hps2 hcv ?_ (fun h => hout (.inr (.inl h))) (fun h => hout (.inr (.inr h)))
      cases hs : stopB most (v + 1) (ps.map (·.2))
      · rfl
      · exact absurd (.inl hs) hout
end
theorem bigB_le (n : Nat) (h : n ≤ 12) : bigB n ≤ 1152921504606846976 := by
  have : ∀ d, d < 13 → bigB d ≤ 1152921504606846976 := by decide
  exact this n (by omega)
theorem boolInfo' : ∃ i0, Try.prog.info? 4 = some i0 ∧ i0.zero = some (.bool false) ∧ i0.size = 1 ∧ i0.bytes = 1 := by
  obtain ⟨i0, h1, h2, h3, h4⟩ := info_parts (show (Try.prog.info? 4).map (fun i => (i.zero, i.size, i.bytes)) = some (some (.bool false), 1, 1) by kernel_rfl)
  exact ⟨i0, h1, h2, h3, h4⟩
theorem WalkAt.of_box {w : World} {b qb : Nat} {uv nv bv ov : Value} {most : Int} (h : BoxIs w b [.pointer (some ⟨qb, 0, none⟩), uv, nv, .int .i64 0, .int .i64 0, .int .i64 most, bv, ov, .int .i64 0]) :
    WalkAt w b qb uv nv bv ov 0 0 most 0 := by
  obtain ⟨h1, h2, h3⟩ := h
  exact ⟨h1, h2 0, h2 1, h2 2, h2 3, h2 4, h2 5, h2 6, h2 7, h2 8, h3⟩
def walkedR (q : Query) (most : Int) (behind : List Int) : WSt := walkR q q.period.toNat q.high.toNat most behind q.period.toNat [] (q.props * q.period) 0 [] 0
def WalkedPost (w : World) (q : Query) (most : Int) (behind : List Int) (qb : Nat) (bv : Value) (e : Ending) (w' : World) : Prop :=
  ∃ b g nv ov ps, e = .returned (.pointer (some ⟨b, 0, none⟩)) ∧ WInv w' w.heap.size b qb g q.period.toNat nv bv ov ps [] (takenF q.period.toNat []) 0 (walkedR q most behind).v most (walkedR q most behind).c ∧ ps.map (·.2) = (walkedR q most behind).o ∧ Below w.heap.size w w'
set_option maxRecDepth 100000 in
set_option maxHeartbeats 4000000 in
theorem l21Walk_c (q : Query) (y z bv : Value) (behind : List Int) (most : Int) (qb : Nat) (w : World) (hB : BoxIs w qb [.int .i64 q.period, .int .i64 q.props, .int .i64 q.high, y, z, .bool q.canonical]) (hQ : QAt w q y z) (hbe : IntsAt w bv behind) (hbl : behind = [] ∨ (behind.length : Int) = q.period) (ho : okQueryB q = true) :
    Calls Try.prog 29 #[.pointer (some ⟨qb, 0, none⟩), .int .i64 most, bv] w (WalkedPost w q most behind qb bv) := by
  obtain ⟨n, H, hqn, hqH, hn1, hn12, hH, hp0, hp15⟩ := okQuery_in ho
  have hn : q.period.toNat = n := by rw [hqn]; simp
  have hHH : q.high.toNat = H := by rw [hqH]; simp
  have HRR : Hid (walkR q n H most behind n [] (q.props * (n : Int)) 0 [] 0 = walkedR q most behind) := Lib.hid (by unfold walkedR; rw [hn, hHH, hqn])
  have HV := Lib.hid (fun (b g : Nat) (hb : w.heap.size ≤ b) (hg : w.heap.size ≤ g) => walk_all (b := b) (g := g) ⟨hqn, hqH, hn1, hn12, hH, hp0, hp15, hB, hQ, hbe, hbl.imp id (fun h => by rw [hqn] at h; omega), hb, hg⟩ most n)
  have HG := Lib.hid (good_start q n)
  have HN := Lib.hid hn
  have HBG := Lib.hid (bigB_le n hn12)
  have q0 := hB.2.1 0
  rw [hqn] at q0
  replace q0 : w.cell? ⟨qb, 0, none⟩ = some (.int .i64 (n : Int)) := q0
  obtain ⟨ba, bn, bc, rfl, -, -, -, -⟩ := hbe
  obtain ⟨i0, hi0, hz0, hz1, hz2⟩ := boolInfo'
  obtain ⟨w1, hmk, hown, hgr⟩ := run_make_full (P := Try.prog) w w.heap.size 60 4 i0 _ 1 Try.underlying60 hi0 hz0 hz1 .i64 .i64 n (by rw [hz2]; omega) (by unfold maxLen; omega) (Nat.le_refl _)
  have hb1 : Below w.heap.size w w1 := (Below.refl _ _).grown hgr (Nat.le_refl _) (fun k h => by cases h)
  have HU : Hid (UsedAt w1 w.heap.size w.heap.size n (fun _ => false)) := Lib.hid (by
    unfold UsedAt
    rw [show (madeCells (Value.bool false).cells (n * 1)).toList = (List.range n).map (fun _ => Value.bool false) by
      rw [show (Value.bool false).cells = #[Value.bool false] from rfl, toList_madeCells_one, Nat.mul_one, List.map_const', List.length_range]] at hown
    exact hown)
  clear hown hgr hi0 hz0 hz1 hz2 hn hHH hqn hqH ho hB hQ hbl
  go_enter Try.func29, Try.ntmps29
  go_wp2_with fail
  generalize hG : (w1.alloc (.cells #[] 24)).alloc (.cells #[.pointer (some ⟨qb, 0, none⟩), .slice (some ⟨w.heap.size, 0, none⟩) n n, .slice none 0 0, .int .i64 0, .int .i64 0, .int .i64 most, .slice ba bn bc, .slice (some ⟨w1.heap.size, 0, none⟩) 0 0, .int .i64 0] 62) = w2 at *
  have hs1 := hb1.size
  have hb2 : Below w.heap.size w w2 := by rw [← hG]; exact (hb1.alloc hs1 _).alloc (by simp; omega) _
  have HBx : Hid (WalkAt w2 (w1.heap.size + 1) qb (.slice (some ⟨w.heap.size, 0, none⟩) n n) (.slice none 0 0) (.slice ba bn bc) (.slice (some ⟨w1.heap.size, 0, none⟩) 0 0) 0 0 most 0) := Lib.hid (WalkAt.of_box (by rw [← hG]; exact BoxIs.new' (b := w1.heap.size + 1) (by simp) _ _))
  have HO : Hid (w2.ownsRow w.heap.size 24 1 (.slice (some ⟨w1.heap.size, 0, none⟩) 0 0) 0 []) := Lib.hid (by
    rw [← hG]
    have h := (World.ownsRow_lit (e := 24) (size := 1) w1 #[] 0 (Nat.le_refl _) (by decide) rfl).alloc (.cells #[.pointer (some ⟨qb, 0, none⟩), .slice (some ⟨w.heap.size, 0, none⟩) n n, .slice none 0 0, .int .i64 0, .int .i64 0, .int .i64 most, .slice ba bn bc, .slice (some ⟨w1.heap.size, 0, none⟩) 0 0, .int .i64 0] 62)
    have h2 := own_mono (base := w.heap.size) h hs1
    simpa using h2)
  have HU2 : Hid (UsedAt w2 w.heap.size w.heap.size n (fun _ => false)) := Lib.hid (by
    rw [← hG]
    exact own_below (own_below HU.out (go_below_alloc' _ _)) (go_below_alloc' _ _))
  have hlt : w.heap.size < w1.heap.size := (World.ownsRow.lt HU.out w.heap.size rfl).2
  have htk : (fun _ : Nat => false) = takenF n [] := by funext j; simp [takenF, landN]
  rw [htk] at HU2
  have hI : WInv w2 w.heap.size (w1.heap.size + 1) qb w.heap.size n (.slice none 0 0) (.slice ba bn bc) (.slice (some ⟨w1.heap.size, 0, none⟩) 0 0) [] [] (takenF n []) (sumF [] 0) 0 most 0 :=
    ⟨HBx.out, HU2.out, by omega, ⟨_, _, _, rfl⟩, World.ownsRow_nil _ _ _ _, by simp [Value.ownBlock], by simp [Value.ownBlock], ⟨_, _, _, rfl⟩, HO.out, by simp [Value.ownBlock], by simp [Value.ownBlock]; omega, fun g hg => by simp [Value.ownBlock] at hg, fun _ h => absurd h List.not_mem_nil, fun _ h => absurd h List.not_mem_nil, fun _ h => absurd h List.not_mem_nil, fun _ h => absurd h List.not_mem_nil, fun _ h => absurd h List.not_mem_nil, fun _ h => absurd h List.not_mem_nil, List.Pairwise.nil⟩
  have HC := Lib.hid (HV.out (w1.heap.size + 1) w.heap.size (by omega) (Nat.le_refl _) [] (q.props * (n : Int)) w2 _ _ [] 0 0 (by simp) HG.out hI hb2 (by have := HBG.out; omega) (by simp) (by simp) (by omega))
  clear hG htk hI HBx HO HU2 HU hmk q0
  refine HC.out.mono ?_
  rintro e w3 ⟨rfl, nv, ov, ps, hI3, hF3, hb3⟩
  clear HC HV
  rw [show (([] : List (Value × List Int)).map (·.2)) = [] from rfl, HRR.out] at hI3 hF3
  rw [← HN.out] at hI3
  go_wp2
  go_ret
  exact ⟨_, _, _, _, ps, rfl, hI3, hF3, hb3⟩
end Go.Proofs.Ytoaegfoapkmdnaa
