/- MarkJ: items that the law marks, and their marks held. -/
import Derived.Test.YtmfoclokpmbpfaaItems
import Derived.Test.YtmfoclokpmbpfaaMarkN
import Derived.Test.YtmfoclokpmbpfaaMarkT
namespace Go.Proofs.Ytmfoclokpmbpfaa
open Go.ChangeShapes Go.WideShapes Go.ChangeAt Go.RowKit

def itemsM : List Item → Nat
  | [] => 0
  | x :: l => x.pattern.length + 1 + itemsM l
def itemMark (x : Item) (k : Nat) : Item := ⟨markB k, intMarks x.pattern.length (k + 1)⟩
def itemMarks : List Item → Nat → List Item
  | [], _ => []
  | x :: l, k => itemMark x k :: itemMarks l (k + (x.pattern.length + 1))
theorem itemMarks_append : ∀ (l m : List Item) (k : Nat), itemMarks (l ++ m) k = itemMarks l k ++ itemMarks m (k + itemsM l)
  | [], m, k => by simp [itemMarks, itemsM]
  | x :: l, m, k => by simp [itemMarks, itemsM, itemMarks_append l m, Nat.add_assoc]
theorem itemsM_append : ∀ (l m : List Item), itemsM (l ++ m) = itemsM l + itemsM m
  | [], m => by simp [itemsM]
  | x :: l, m => by simp [itemsM, itemsM_append l m, Nat.add_assoc]
theorem itemMarks_len : ∀ (l : List Item) (k : Nat), (itemMarks l k).length = l.length
  | [], _ => rfl
  | x :: l, k => by simp [itemMarks, itemMarks_len l]
def InItems (w : World) (lo hi : Nat) (v : Value) (l : List Item) : Prop := InNest itemS 40 w lo hi v l
section
variable {w w' : World} {lo hi : Nat} {v : Value} {l : List Item}
theorem InItems.of (h : OwnItems w lo v l) : InItems w lo w.heap.size v l := InNest.of h
theorem InItems.below (h : InItems w lo hi v l) (hb : Below w.heap.size w w') : InItems w' lo hi v l := InNest.below h hb
theorem InItems.turned {lo' hi' : Nat} (h : InItems w lo hi v l) (ht : Turned lo' hi' w w') (hd : hi ≤ lo' ∨ hi' ≤ lo) : InItems w' lo hi v l := InNest.turned h ht hd
theorem InItems.at (h : InItems w lo hi v l) : ItemsAt w v l := InNest.at h
end
theorem itemMarks_step (l : List Item) (k j : Nat) (h : j < l.length) : itemMarks (l.take (j + 1)) k = itemMarks (l.take j) k ++ [itemMark (nth l j) (k + itemsM (l.take j))] := by
  rw [take_nth l j h, itemMarks_append]; rfl
theorem itemsM_step (l : List Item) (j : Nat) (h : j < l.length) : itemsM (l.take (j + 1)) = itemsM (l.take j) + ((nth l j).pattern.length + 1) := by
  rw [take_nth l j h, itemsM_append]; simp [itemsM]
theorem itemsM_le : ∀ (l : List Item), (∀ x ∈ l, x.pattern.length ≤ 1048576) → itemsM l ≤ l.length * 1048577
  | [], _ => by simp [itemsM]
  | x :: l, h => by
    have h1 := h x (List.mem_cons_self ..)
    have h2 := itemsM_le l (fun y hy => h y (List.mem_cons_of_mem _ hy))
    simp only [itemsM, List.length_cons, Nat.succ_mul]
    omega
theorem itemMarks_nth (l : List Item) (k j : Nat) (h : j < l.length) : nth (itemMarks l k) j = itemMark (nth l j) (k + itemsM (l.take j)) := by
  have h1 : itemMarks l k = itemMarks (l.take j) k ++ itemMarks (l.drop j) (k + itemsM (l.take j)) := by
    rw [← itemMarks_append, List.take_append_drop]
  rw [h1, drop_nth l j h]
  have hl : (itemMarks (l.take j) k).length = j := by rw [itemMarks_len, List.length_take]; omega
  unfold nth
  rw [List.getD, List.getElem?_append_right (by omega), hl, Nat.sub_self]
  rfl
set_option maxHeartbeats 2000000 in
theorem markItemS_c (v : Value) (l : List Item) (k lo hi : Nat) (w : World) (hv : InItems w lo hi v l) (hl : l.length ≤ 1048576) (hp : ∀ x ∈ l, x.pattern.length ≤ 1048576) (hk1 : 1 ≤ k) (hk : k ≤ 140737488355328) (hhi : hi ≤ w.heap.size) :
    Calls Try.prog 13 #[v, .int .i64 k] w fun e w' => ∃ m : Nat, e = .returned (.int .i64 m) ∧ m = k + itemsM l ∧ m ≤ k + 4398046511104 ∧ InItems w' lo hi v (itemMarks l k) ∧ Turned lo hi w w' := by
  obtain ⟨ps, hps, hN⟩ := hv
  have hlps : ps.length = l.length := by rw [← hps]; simp
  obtain ⟨a, c, rfl⟩ := slice_of_own hN.row.1
  generalize hn : ps.length = n at *
  have Hps : Hid (ps.map (·.2) = itemMarks (l.take 0) k ++ l.drop 0) := Lib.hid (by simpa [itemMarks] using hps)
  have HN := Lib.hid hN
  have Hln : Hid (n = l.length) := Lib.hid hlps
  have hbd := itemsM_le l hp
  have Hp := Lib.hid hp
  have Hbd : Hid (∀ j, itemsM (l.take j) ≤ 1099513724928) := Lib.hid (fun j => by
    have h1 := itemsM_le (l.take j) (fun x hx => hp x (List.mem_of_mem_take hx))
    have h2 : (l.take j).length ≤ 1048576 := by rw [List.length_take]; omega
    have h3 := Nat.mul_le_mul_right 1048577 h2
    omega)
  have Hn := Lib.hid hn
  have hn20 : n ≤ 1048576 := by omega
  clear hps hN hlps hbd hp hn hl
  go_enter Try.func13, Try.ntmps13
  go_wp2
  go_loopw [1, 5] (fun s i wr => ∃ (j q : Nat) (ps' : List (Value × Item)), i = .int .i64 j ∧ s = .int .i64 q ∧ q ≤ 300000000000000 ∧ 1 ≤ q ∧ j ≤ n ∧ Hid (q = k + itemsM (l.take j)) ∧ Hid (ps'.map (·.2) = itemMarks (l.take j) k ++ l.drop j) ∧ Hid (NestIn itemS 40 wr lo hi (.slice a n c) ps') ∧ Hid (hi ≤ wr.heap.size) ∧ Hid (Turned lo hi w wr)) (fun _ i _ => n - (intOf i).toNat)
  case atStart => exact ⟨0, k, ps, rfl, rfl, by omega, hk1, Nat.zero_le _, Lib.hid (by simp [itemsM]), Hps, HN, Lib.hid hhi, Lib.hid (Turned.refl _)⟩
  case round =>
    obtain ⟨j, q, ps', rfl, rfl, hq, hq1, hj, HQ, HP', HN', HH, HT⟩ := hrel
    have hlen' : ps'.length = n := by
      have := congrArg List.length HP'.out
      rw [List.length_map, List.length_append, itemMarks_len, List.length_take, List.length_drop, ← Hln.out] at this
      omega
    by_cases hlt : j < n
    · have hx : (nth ps' j).2 = nth l j := by
        have h1 : nth (ps'.map (·.2)) j = (nth ps' j).2 := by rw [nth_eq _ _ (by simpa using (show j < ps'.length by omega)), nth_eq _ _ (show j < ps'.length by omega)]; simp
        rw [← h1, HP'.out]
        exact nth_mid _ _ _ (by rw [itemMarks_len, List.length_take, ← Hln.out]; omega) (by rw [← Hln.out]; exact hlt)
      obtain ⟨g, rfl, hg1, hg2, hghi⟩ := HN'.out.form (by omega)
      obtain ⟨pa, pn, pc, hpv⟩ := HN'.out.sl j (by omega)
      have hqb : q ≤ 140737488355328 + 1099513724928 := by have := HQ.out; have := Hbd.out j; omega
      have hqs := markB_size q (by omega)
      have HC := Lib.hid (fun W => markText_c q W (by omega) (by omega))
      have Hx := Lib.hid hx; clear hx
      have Hpv := Lib.hid hpv; clear hpv
      have Hlen' := Lib.hid hlen'; clear hlen'
      go_wp2_with fail
      refine (HC.out _).mono ?_
      rintro e w2 ⟨rfl, hb2⟩
      clear HC
      have HN2 := Lib.hid (HN'.out.below hb2)
      have HT2 := Lib.hid (HT.out.then_below hb2)
      have HH2 := Lib.hid (Nat.le_trans HH.out hb2.size)
      have hg3 : g < w2.heap.size := Nat.lt_of_lt_of_le hg2 hb2.size
      clear HN' HT HH hb2
      have e0 : w2.cell? ⟨g, j * 2, none⟩ = some (.string (nth ps' j).2.name) := by
        have h := HN2.out.cellAt (i := j) (j := 0) Hlen'.out.symm (by rw [Hlen'.out]; exact hlt) (by decide)
        rw [Hpv.out] at h; exact h
      have e1 : w2.cell? ⟨g, j * 2 + 1, none⟩ = some (.slice pa pn pc) := by
        have h := HN2.out.cellAt (i := j) (j := 1) Hlen'.out.symm (by rw [Hlen'.out]; exact hlt) (by decide)
        rw [Hpv.out] at h; exact h
      have f0 := HN2.out.frozenAt Hlen'.out.symm (j * 2)
      -- the name is written
      have HN3 := Lib.hid (NestIn.rowSet (S := itemS) (j := 0) (u := .string (markB q)) (y := (⟨markB q, (nth ps' j).2.pattern⟩ : Item)) HN2.out Hlen'.out.symm (by rw [Hlen'.out]; exact hlt) (by decide) rfl rfl hqs)
      have HT3 := Lib.hid (HT2.out.set (p := ⟨g, j * 2, none⟩) hg1 hghi (.string (markB q)))
      have HS3 : Hid (w2.heap.size = (w2.setCell ⟨g, j * 2, none⟩ (.string (markB q))).heap.size) := Lib.hid (by simp [World.setCell])
      generalize hps3 : ps'.set j ((nth ps' j).1, (⟨markB q, (nth ps' j).2.pattern⟩ : Item)) = ps3 at *
      have hl3 : ps3.length = n := by rw [← hps3, List.length_set, Hlen'.out]
      have hn3 : nth ps3 j = ((nth ps' j).1, (⟨markB q, (nth ps' j).2.pattern⟩ : Item)) := by rw [← hps3, nth_set _ _ _ _ (by rw [Hlen'.out]; exact hlt), if_pos rfl]
      have HD3 : Hid (ps3.map (·.2) = (itemMarks (l.take j) k ++ l.drop j).set j ⟨markB q, (nth ps' j).2.pattern⟩) := Lib.hid (by rw [← hps3, map_set', HP'.out])
      have HL3 := Lib.hid hl3; clear hl3
      have Hn3 := Lib.hid hn3; clear hn3
      have Hps3 := Lib.hid hps3; clear hps3
      clear HN2 HP'
      have HR0 : Hid (w2.setCell ⟨g, j * 2 + 0, none⟩ (.string (markB q)) = w2.setCell ⟨g, j * 2, none⟩ (.string (markB q))) := Lib.hid rfl
      go_wp2_with fail
      generalize hw3 : w2.setCell ⟨g, j * 2, none⟩ (.string (markB q)) = w3 at *
      have HN4 : Hid (NestIn itemS 40 w3 lo hi (.slice (some ⟨g, 0, none⟩) n c) ps3) := Lib.hid (by rw [← hw3]; exact HN3.out)
      clear HN3 HR0 e0 e1 f0
      obtain ⟨g1, g2, hin, hlo, hup, hsz2, hfar⟩ := ints_tight (HN4.out.pat j (by rw [HL3.out]; exact hlt))
      have hpl : (nth l j).pattern.length ≤ 1048576 := Hp.out _ (mem_nth (by rw [← Hln.out]; exact hlt))
      have hin' : InInts w3 g1 g2 (.slice pa pn pc) (nth l j).pattern := by rw [Hn3.out] at hin; rw [Hpv.out] at hin; rw [← Hx.out]; exact hin
      refine (markInt64S_c (.slice pa pn pc) (nth l j).pattern (q + 1) g1 g2 w3 hin' (by omega) (by omega) (by omega) hsz2).mono ?_
      rintro e w4 ⟨m, rfl, hm, -, hI, hT⟩
      have HM : Hid (m = q + 1 + (nth l j).pattern.length) := Lib.hid (by rw [hm]; rfl)
      have hmb : m ≤ q + 1 + 1048576 := by have := HM.out; omega
      have hI' : InInts w4 g1 g2 (nth ps3 j).1 (intMarks (nth l j).pattern.length (q + 1)) := by rw [Hn3.out]; simp only []; rw [Hpv.out]; exact hI
      have HN5 := Lib.hid (NestIn.patSet (S := itemS) (y := (⟨markB q, intMarks (nth l j).pattern.length (q + 1)⟩ : Item)) HN4.out (by rw [HL3.out]; exact hlt) hT (by rw [Hn3.out]; simp only []; rw [Hn3.out] at hfar; exact hfar) hI' hqs (by rw [Hn3.out]; rfl))
      have HT5 := Lib.hid (HT3.out.trans (hT.widen hlo hup))
      have HH5 : Hid (hi ≤ w4.heap.size) := Lib.hid (Nat.le_trans HH2.out (Nat.le_trans (Nat.le_of_eq HS3.out) hT.size))
      have HD5 : Hid ((ps3.set j ((nth ps3 j).1, (⟨markB q, intMarks (nth l j).pattern.length (q + 1)⟩ : Item))).map (·.2) = itemMarks (l.take (j + 1)) k ++ l.drop (j + 1)) := Lib.hid (by
        have e : itemMark (nth l j) (k + itemsM (l.take j)) = ⟨markB q, intMarks (nth l j).pattern.length (q + 1)⟩ := by
          rw [← HQ.out]; rfl
        rw [map_set', HD3.out, List.set_set, set_mid _ _ _ _ (by rw [itemMarks_len, List.length_take, ← Hln.out]; omega) (by rw [← Hln.out]; exact hlt), itemMarks_step _ _ _ (by rw [← Hln.out]; exact hlt), e])
      have HQ5 : Hid (m = k + itemsM (l.take (j + 1))) := Lib.hid (by rw [itemsM_step _ _ (by rw [← Hln.out]; exact hlt)]; have := HQ.out; have := HM.out; omega)
      have hm300 : m ≤ 300000000000000 := by omega
      have hm1 : 1 ≤ m := by have := HM.out; omega
      clear hI hI' hin hin' hlo hup hsz2 hfar hT hm hw3 HN4 HD3 HT3 HS3 Hps3 HL3 Hn3 HM HT2 HH2
      go_wp2
      exact ⟨⟨j + 1, m, _, by go_num, rfl, hm300, hm1, hlt, HQ5, HD5, HN5, HH5, HT5⟩, by simp [intOf]; omega⟩
    · obtain rfl : j = n := by omega
      have HO3 : Hid (InItems wr lo hi (.slice a j c) (itemMarks l k)) := Lib.hid ⟨ps', by have := HP'.out; rw [Hln.out, List.take_length, List.drop_length, List.append_nil] at this; exact this, HN'.out⟩
      have HR : Hid (q = k + itemsM l) := Lib.hid (by have := HQ.out; rwa [Hln.out, List.take_length] at this)
      have hqb : q ≤ k + 4398046511104 := by have := HQ.out; have := Hbd.out j; omega
      clear HN' HP' HQ
      go_wp2
      go_ret
      exact ⟨q, rfl, HR.out, hqb, HO3.out, HT.out⟩
set_option maxHeartbeats 1000000 in
theorem heldIntK_c (v : Value) (n0 k : Nat) (w : World) (hv : IntsAt w v (intMarks n0 k)) (hl : n0 ≤ 1099511627776) (hk : k ≤ 281474976710656) :
    Calls Try.prog 31 #[v, .int .i64 k] w (Gives (.int .i64 ((k + n0 : Nat) : Int)) w) := by
  obtain ⟨a, n, cap, rfl, hn, hcl, hm, hc⟩ := hv
  have Hc := Lib.hid hc; clear hc
  rw [intMarks_len] at hn
  subst hn
  go_enter Try.func31, Try.ntmps31
  go_wp2
  go_loopw [1, 5] (fun s i wr => ∃ j q : Nat, i = .int .i64 j ∧ s = .int .i64 q ∧ j ≤ n ∧ q ≤ k + j ∧ Hid (q = k + j) ∧ Below w.heap.size w wr) (fun _ i _ => n - (intOf i).toNat)
  case atStart => exact ⟨0, k, rfl, rfl, Nat.zero_le _, Nat.le_refl _, Lib.hid rfl, Below.refl _ _⟩
  case round =>
    obtain ⟨j, q, rfl, rfl, hj, hq, HQ, hb⟩ := hrel
    by_cases hlt : j < n
    · obtain ⟨b, o, rfl, hbs, c0⟩ := (Hc.out.below hb) j (by rw [intMarks_len]; exact hlt)
      have hx : nth (intMarks n k) j = (q : Int) := by unfold intMarks; rw [nth_range_map _ _ _ hlt, HQ.out]
      rw [hx] at c0
      clear hx
      go_wp2
      exact ⟨⟨j + 1, q + 1, by go_num, by go_num, hlt, by omega, Lib.hid (by have := HQ.out; omega), hb⟩, by simp [intOf]; omega⟩
    · obtain rfl : j = n := by omega
      have HR : Hid (q = k + j) := Lib.hid HQ.out
      go_wp2
      go_ret
      exact Gives.int (by rw [HR.out]) hb
set_option maxHeartbeats 2000000 in
theorem heldItemS_c (v : Value) (l : List Item) (w : World) (hv : ItemsAt w v (itemMarks l 1)) (hl : l.length ≤ 1048576) (hp : ∀ x ∈ l, x.pattern.length ≤ 1048576) (m : Nat) (hm' : m = 1 + itemsM l) :
    Calls Try.prog 14 #[v, .int .i64 1] w (Gives (.int .i64 m) w) := by
  obtain ⟨a, n, cap, rfl, hn, hcl, hm, hc⟩ := hv
  have Hc := Lib.hid hc; clear hc
  rw [itemMarks_len] at hn
  have Hm := Lib.hid hm'; clear hm'
  have Hn := Lib.hid hn
  have Hp := Lib.hid hp
  have Hbd : Hid (∀ j, itemsM (l.take j) ≤ 1099513724928) := Lib.hid (fun j => by
    have h1 := itemsM_le (l.take j) (fun x hx => hp x (List.mem_of_mem_take hx))
    have h2 : (l.take j).length ≤ 1048576 := by rw [List.length_take]; omega
    have h3 := Nat.mul_le_mul_right 1048577 h2
    omega)
  rw [← hn] at hl
  clear hn hp
  go_enter Try.func14, Try.ntmps14
  go_wp2
  go_loopw [1, 5] (fun s i wr => ∃ j q : Nat, i = .int .i64 j ∧ s = .int .i64 q ∧ q ≤ 1099513724929 ∧ 1 ≤ q ∧ j ≤ n ∧ Hid (q = 1 + itemsM (l.take j)) ∧ Below w.heap.size w wr) (fun _ i _ => n - (intOf i).toNat)
  case atStart => exact ⟨0, 1, rfl, rfl, by omega, Nat.le_refl _, Nat.zero_le _, Lib.hid (by simp [itemsM]), Below.refl _ _⟩
  case round =>
    obtain ⟨j, q, rfl, rfl, hq2, hq1, hj, HQ, hb⟩ := hrel
    by_cases hlt : j < n
    · have hjl : j < l.length := by rw [← Hn.out]; exact hlt
      obtain ⟨b, o, pa, pn, pc, rfl, hbs, hsz, hpa, c0, c1⟩ := item_cells (Hc.out.below hb) j (by rw [itemMarks_len]; exact hjl)
      have hx : nth (itemMarks l 1) j = itemMark (nth l j) q := by rw [itemMarks_nth l 1 j hjl, HQ.out]
      rw [hx] at c0 hpa
      change _ = some (Value.string (markB q)) at c0
      change IntsAt _ _ (intMarks (nth l j).pattern.length (q + 1)) at hpa
      have hpl := Hp.out _ (mem_nth hjl)
      have HPA := Lib.hid hpa
      have k0 := cell_regrown c0
      have HC := Lib.hid (fun W => markText_c q W (by omega) (by omega))
      have HC1 := Lib.hid c1
      have HS : Hid (q + 1 + (nth l j).pattern.length = 1 + itemsM (l.take (j + 1))) := Lib.hid (by rw [itemsM_step l j hjl]; have := HQ.out; omega)
      have hbd := Hbd.out (j + 1)
      have hqb : q + 1 + (nth l j).pattern.length ≤ 1099513724929 := by have := HS.out; omega
      clear hx c0 c1 hsz hpa hbd hjl
      generalize markB q = s at *
      go_wp2
      refine wp_region_quiet_below (by kernel_rfl) (by kernel_rfl) ?_
      repeat (first | go_big_quiet_step (exact Calls.regrown_of (HC.out _)) | quiet_step (exact Calls.regrown_of (HC.out _)))
      refine wpQuiet_nil ?_
      intro _ hw'
      obtain ⟨⟨dq, osq⟩, hw''⟩ := hw'
      subst hw''
      have hbq := below_regrown wr dq osq
      generalize Go.Sort.grow (redrawn wr dq) osq = wq at *
      have hb2 := bthen hb hbq
      have c1 := cell_then hbs HC1.out hbq
      have HK := Lib.hid (fun W x => heldIntK_c (.slice pa pn pc) (nth l j).pattern.length (q + 1) W x (by omega) (by omega))
      generalize (nth l j).pattern.length = t at *
      go_wp2_with fail
      refine (HK.out _ (HPA.out.below hbq)).mono ?_
      rintro e w3 ⟨rfl, hb3⟩
      clear HK HC
      have hge : ¬ ((q + 1 + t : Nat) : Int) < 0 := by omega
      go_wp2
      exact ⟨⟨j + 1, q + 1 + t, by go_num, rfl, hqb, by omega, hlt, HS, bthen hb2 hb3⟩, by simp [intOf]; omega⟩
    · obtain rfl : j = n := by omega
      have HR : Hid (q = m) := Lib.hid (by rw [Hm.out, HQ.out, Hn.out, List.take_length])
      clear HQ
      go_wp2
      go_ret
      exact Gives.int (by rw [HR.out]) hb
end Go.Proofs.Ytmfoclokpmbpfaa
