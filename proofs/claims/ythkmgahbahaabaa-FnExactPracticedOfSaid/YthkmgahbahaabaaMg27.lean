import Derived.Test.YthkmgahbahaabaaMg5
import Derived.Test.YthkmgahbahaabaaMg23
/- MarkA: attempts that the law marks. -/
namespace Go.Proofs.Ythkmgahbahaabaa
open Go.ChangeShapes Go.WideShapes Go.ChangeAt Go.RowKit

def attsM : List Att → Nat
  | [] => 0
  | x :: l => x.pattern.length + 2 + attsM l
def attMark (x : Att) (k : Nat) : Att := ⟨intMarks x.pattern.length k, ((k + x.pattern.length : Nat) : Int), decide ((k + x.pattern.length + 1) % 3 = 0)⟩
def attMarks : List Att → Nat → List Att
  | [], _ => []
  | x :: l, k => attMark x k :: attMarks l (k + (x.pattern.length + 2))
theorem attMarks_append : ∀ (l m : List Att) (k : Nat), attMarks (l ++ m) k = attMarks l k ++ attMarks m (k + attsM l)
  | [], m, k => by simp [attMarks, attsM]
  | x :: l, m, k => by simp [attMarks, attsM, attMarks_append l m, Nat.add_assoc]
theorem attsM_append : ∀ (l m : List Att), attsM (l ++ m) = attsM l + attsM m
  | [], m => by simp [attsM]
  | x :: l, m => by simp [attsM, attsM_append l m, Nat.add_assoc]
theorem attMarks_len : ∀ (l : List Att) (k : Nat), (attMarks l k).length = l.length
  | [], _ => rfl
  | x :: l, k => by simp [attMarks, attMarks_len l]
def InAtts (w : World) (lo hi : Nat) (v : Value) (l : List Att) : Prop := InNest attS 40 w lo hi v l
section
variable {w w' : World} {lo hi : Nat} {v : Value} {l : List Att}
theorem InAtts.of (h : OwnAtts w lo v l) : InAtts w lo w.heap.size v l := InNest.of h
theorem InAtts.below (h : InAtts w lo hi v l) (hb : Below w.heap.size w w') : InAtts w' lo hi v l := InNest.below h hb
theorem InAtts.turned {lo' hi' : Nat} (h : InAtts w lo hi v l) (ht : Turned lo' hi' w w') (hd : hi ≤ lo' ∨ hi' ≤ lo) : InAtts w' lo hi v l := InNest.turned h ht hd
theorem InAtts.at (h : InAtts w lo hi v l) : AttsAt w v l := InNest.at h
end
theorem attMarks_step (l : List Att) (k j : Nat) (h : j < l.length) : attMarks (l.take (j + 1)) k = attMarks (l.take j) k ++ [attMark (nth l j) (k + attsM (l.take j))] := by
  rw [take_nth l j h, attMarks_append]; rfl
theorem attsM_step (l : List Att) (j : Nat) (h : j < l.length) : attsM (l.take (j + 1)) = attsM (l.take j) + ((nth l j).pattern.length + 2) := by
  rw [take_nth l j h, attsM_append]; simp [attsM]
theorem atts_set {w : World} {lo hi n g cap : Nat} {ps : List (Value × Att)} {i : Nat} (c : Int) (b : Bool) (h : NestIn attS 40 w lo hi (.slice (some ⟨g, 0, none⟩) n cap) ps) (hi' : i < ps.length) (hn : n = ps.length) :
    NestIn attS 40 ((w.setCell ⟨g, i * 3 + 1, none⟩ (.int .i64 c)).setCell ⟨g, i * 3 + 2, none⟩ (.bool b)) lo hi (.slice (some ⟨g, 0, none⟩) n cap) (ps.set i ((nth ps i).1, ⟨(nth ps i).2.pattern, c, b⟩)) := by
  have h1 := NestIn.rowSet (S := attS) (j := 1) (u := .int .i64 c) (y := (⟨(nth ps i).2.pattern, c, (nth ps i).2.dropped⟩ : Att)) h hn hi' (by decide) rfl rfl trivial
  have hx := nth_set ps i i ((nth ps i).1, (⟨(nth ps i).2.pattern, c, (nth ps i).2.dropped⟩ : Att)) hi'
  rw [if_pos rfl] at hx
  have h2 := NestIn.rowSet (S := attS) (j := 2) (u := .bool b) (y := (⟨(nth ps i).2.pattern, c, b⟩ : Att)) h1 (by rw [List.length_set]; exact hn) (by rw [List.length_set]; exact hi') (by decide) (by rw [hx]; rfl) (by rw [hx]; rfl) trivial
  rw [hx, List.set_set] at h2
  exact h2
theorem attsM_le : ∀ (l : List Att), (∀ x ∈ l, x.pattern.length ≤ 1048576) → attsM l ≤ l.length * 1048578
  | [], _ => by simp [attsM]
  | x :: l, h => by
    have h1 := h x (List.mem_cons_self ..)
    have h2 := attsM_le l (fun y hy => h y (List.mem_cons_of_mem _ hy))
    simp only [attsM, List.length_cons, Nat.succ_mul]
    omega
set_option maxHeartbeats 2000000 in
theorem markAttemptS_c (v : Value) (l : List Att) (k lo hi : Nat) (w : World) (hv : InAtts w lo hi v l) (hl : l.length ≤ 1048576) (hp : ∀ x ∈ l, x.pattern.length ≤ 1048576) (hk1 : 1 ≤ k) (hk : k ≤ 140737488355328) (hhi : hi ≤ w.heap.size) :
    Calls Try.prog 10 #[v, .int .i64 k] w fun e w' => ∃ m : Nat, e = .returned (.int .i64 m) ∧ m = k + attsM l ∧ m ≤ k + 4398046511104 ∧ InAtts w' lo hi v (attMarks l k) ∧ Turned lo hi w w' := by
  obtain ⟨ps, hps, hN⟩ := hv
  have hlps : ps.length = l.length := by rw [← hps]; simp
  obtain ⟨a, c, rfl⟩ := slice_of_own hN.row.1
  generalize hn : ps.length = n at *
  have Hps : Hid (ps.map (·.2) = attMarks (l.take 0) k ++ l.drop 0) := Lib.hid (by simpa [attMarks] using hps)
  have HN := Lib.hid hN
  have Hln : Hid (n = l.length) := Lib.hid hlps
  have hbd := attsM_le l hp
  have Hp := Lib.hid hp
  have Hbd : Hid (∀ j, attsM (l.take j) ≤ 1099513724928) := Lib.hid (fun j => by
    have h1 := attsM_le (l.take j) (fun x hx => hp x (List.mem_of_mem_take hx))
    have h2 : (l.take j).length ≤ 1048576 := by rw [List.length_take]; omega
    have h3 := Nat.mul_le_mul_right 1048578 h2
    omega)
  have Hn := Lib.hid hn
  have hn20 : n ≤ 1048576 := by omega
  clear hps hN hlps hbd hp hn hl
  go_enter Try.func10, Try.ntmps10
  go_wp2
  go_loopw [1, 5] (fun s i wr => ∃ (j q : Nat) (ps' : List (Value × Att)), i = .int .i64 j ∧ s = .int .i64 q ∧ q ≤ 300000000000000 ∧ j ≤ n ∧ Hid (q = k + attsM (l.take j)) ∧ Hid (ps'.map (·.2) = attMarks (l.take j) k ++ l.drop j) ∧ Hid (NestIn attS 40 wr lo hi (.slice a n c) ps') ∧ Hid (hi ≤ wr.heap.size) ∧ Hid (Turned lo hi w wr)) (fun _ i _ => n - (intOf i).toNat)
  case atStart => exact ⟨0, k, ps, rfl, rfl, by omega, Nat.zero_le _, Lib.hid (by simp [attsM]), Hps, HN, Lib.hid hhi, Lib.hid (Turned.refl _)⟩
  case round =>
    obtain ⟨j, q, ps', rfl, rfl, hq, hj, HQ, HP', HN', HH, HT⟩ := hrel
    have hlen' : ps'.length = n := by
      have := congrArg List.length HP'.out
      rw [List.length_map, List.length_append, attMarks_len, List.length_take, List.length_drop, ← Hln.out] at this
      omega
    by_cases hlt : j < n
    · have hx : (nth ps' j).2 = nth l j := by
        have h1 : nth (ps'.map (·.2)) j = (nth ps' j).2 := by rw [nth_eq _ _ (by simpa using (show j < ps'.length by omega)), nth_eq _ _ (show j < ps'.length by omega)]; simp
        rw [← h1, HP'.out]
        exact nth_mid _ _ _ (by rw [attMarks_len, List.length_take, ← Hln.out]; omega) (by rw [← Hln.out]; exact hlt)
      obtain ⟨g, rfl, hg1, hg2, hghi⟩ := HN'.out.form (by omega)
      obtain ⟨pa, pn, pc, hpv⟩ := HN'.out.sl j (by omega)
      obtain ⟨g1, g2, hin, hlo, hup, hsz2, hfar⟩ := ints_tight (HN'.out.pat j (by omega))
      have hpl : (nth l j).pattern.length ≤ 1048576 := Hp.out _ (mem_nth (by rw [← Hln.out]; exact hlt))
      have hin' : InInts wr g1 g2 (nth ps' j).1 (nth l j).pattern := by rw [hx] at hin; exact hin
      have HFar := Lib.hid hfar
      have HC := Lib.hid (markInt64S_c (nth ps' j).1 (nth l j).pattern q g1 g2 wr hin' (by omega) (by have := HQ.out; omega) (by have := HQ.out; have := Hbd.out j; omega) hsz2)
      have e0 : wr.cell? ⟨g, j * 3, none⟩ = some (.slice pa pn pc) := by
        have h := HN'.out.cellAt (i := j) (j := 0) hlen'.symm (by omega) (by decide)
        rw [hpv] at h; exact h
      rw [hpv] at HC
      have Hpv := Lib.hid hpv
      have Hx := Lib.hid hx
      have Hup := Lib.hid (And.intro hlo hup)
      have Hlen' := Lib.hid hlen'
      have hglt := hg2
      clear hin hin' hfar hlo hup hsz2 hpv hx hlen'
      have hqb : q ≤ 140737488355328 + 1099513724928 := by have := HQ.out; have := Hbd.out j; omega
      go_wp2_with fail
      refine HC.out.mono ?_
      rintro e w2 ⟨m, rfl, hm, -, hI, hT⟩
      have HM : Hid (m = q + (nth l j).pattern.length) := Lib.hid (by rw [hm]; rfl)
      have hmb : m ≤ q + 1048576 := by have := HM.out; omega
      clear hm
      have hI' : InInts w2 g1 g2 (nth ps' j).1 (intMarks (nth l j).pattern.length q) := by rw [Hpv.out]; exact hI
      have HN2 := Lib.hid (NestIn.patSet (S := attS) (y := (⟨intMarks (nth l j).pattern.length q, (nth l j).catches, (nth l j).dropped⟩ : Att)) HN'.out (by rw [Hlen'.out]; exact hlt) hT HFar.out hI' trivial (by rw [Hx.out]; rfl))
      have HT2 := Lib.hid (HT.out.trans (hT.widen Hup.out.1 Hup.out.2))
      have HH2 := Lib.hid (Nat.le_trans HH.out hT.size)
      clear hI hI' hT
      generalize hps2 : ps'.set j ((nth ps' j).1, (⟨intMarks (nth l j).pattern.length q, (nth l j).catches, (nth l j).dropped⟩ : Att)) = ps2 at *
      have hl2 : ps2.length = n := by rw [← hps2, List.length_set, Hlen'.out]
      have hn2 : nth ps2 j = ((nth ps' j).1, (⟨intMarks (nth l j).pattern.length q, (nth l j).catches, (nth l j).dropped⟩ : Att)) := by rw [← hps2, nth_set _ _ _ _ (by rw [Hlen'.out]; exact hlt), if_pos rfl]
      have e1 : w2.cell? ⟨g, j * 3 + 1, none⟩ = some (.int .i64 (nth l j).catches) := by
        have h := HN2.out.cellAt (i := j) (j := 1) hl2.symm (by rw [hl2]; exact hlt) (by decide)
        rw [hn2] at h; exact h
      have e2 : w2.cell? ⟨g, j * 3 + 2, none⟩ = some (.bool (nth l j).dropped) := by
        have h := HN2.out.cellAt (i := j) (j := 2) hl2.symm (by rw [hl2]; exact hlt) (by decide)
        rw [hn2] at h; exact h
      have f1 := HN2.out.frozenAt hl2.symm (j * 3 + 1)
      have f2 := HN2.out.frozenAt hl2.symm (j * 3 + 2)
      have HL2 := Lib.hid hl2
      have HP2 : Hid ((nth ps2 j) = ((nth ps' j).1, (⟨intMarks (nth l j).pattern.length q, (nth l j).catches, (nth l j).dropped⟩ : Att))) := Lib.hid hn2
      have HD2 : Hid (ps2.map (·.2) = (attMarks (l.take j) k ++ l.drop j).set j ⟨intMarks (nth l j).pattern.length q, (nth l j).catches, (nth l j).dropped⟩) := Lib.hid (by rw [← hps2, map_set', HP'.out])
      clear hl2 hn2 hps2 HP' HN'
      obtain ⟨r, hr⟩ : ∃ r : Nat, (m + 1) % 3 = r := ⟨_, rfl⟩
      have hr3 : r < 3 := by omega
      have hr1 : ((m : Int) + 1).tmod 3 = (r : Int) := by rw [Int.tmod_eq_emod_of_nonneg (by omega)]; omega
      have hr2 : ((m : Int) + 1) % 3 = (r : Int) := by omega
      have hwr : IntKind.i64.wrap (r : Int) = (r : Int) := IntWalk.i64_in _ (by omega)
      have HB : Hid (decide ((m + 1) % 3 = 0) = decide (r = 0)) := Lib.hid (by rw [hr])
      clear hr
      generalize hbq : decide (r = 0) = bq at *
      have hz : ((r : Int) == 0) = bq := by rw [← hbq, Bool.eq_iff_iff]; simp
      clear hbq
      generalize hy : nth l j = x at *
      have HY := Lib.hid hy
      clear hy
      have HN4 := Lib.hid (atts_set (m : Int) bq HN2.out (by rw [HL2.out]; exact hlt) HL2.out.symm)
      have HD4 : Hid ((ps2.set j ((nth ps2 j).1, (⟨(nth ps2 j).2.pattern, (m : Int), bq⟩ : Att))).map (·.2) = attMarks (l.take (j + 1)) k ++ l.drop (j + 1)) := Lib.hid (by
        have e : attMark (nth l j) (k + attsM (l.take j)) = ⟨(nth ps2 j).2.pattern, (m : Int), bq⟩ := by
          rw [HP2.out, ← HQ.out, HY.out]
          unfold attMark
          rw [← HB.out, HM.out]
        rw [map_set', HD2.out, List.set_set, set_mid _ _ _ _ (by rw [attMarks_len, List.length_take, ← Hln.out]; omega) (by rw [← Hln.out]; exact hlt), attMarks_step _ _ _ (by rw [← Hln.out]; exact hlt), e])
      have HQ4 : Hid (m + 2 = k + attsM (l.take (j + 1))) := Lib.hid (by rw [attsM_step _ _ (by rw [← Hln.out]; exact hlt), HY.out]; have := HQ.out; have := HM.out; omega)
      go_wp2
      exact ⟨⟨j + 1, m + 2, _, by go_num, by go_num, by omega, hlt, HQ4, HD4, HN4, Lib.hid (by simp only [World.size_setCell]; exact HH2.out), Lib.hid ((HT2.out.set hg1 hghi _).set hg1 hghi _)⟩, by simp [intOf]; omega⟩
    · obtain rfl : j = n := by omega
      have HO3 : Hid (InAtts wr lo hi (.slice a j c) (attMarks l k)) := Lib.hid ⟨ps', by have := HP'.out; rw [Hln.out, List.take_length, List.drop_length, List.append_nil] at this; exact this, HN'.out⟩
      have HR : Hid (q = k + attsM l) := Lib.hid (by have := HQ.out; rwa [Hln.out, List.take_length] at this)
      have hqb : q ≤ k + 4398046511104 := by have := HQ.out; have := Hbd.out j; omega
      clear HN' HP' HQ
      go_wp2
      go_ret
      exact ⟨q, rfl, HR.out, hqb, HO3.out, HT.out⟩
end Go.Proofs.Ythkmgahbahaabaa
