import Derived.Test.YtcgbdhbdlnimhaaGreatMg32
import Derived.Test.YtcgbdhbdlnimhaaGreatMg47
import Derived.Test.YtcgbdhbdlnimhaaGreatMg25
import Derived.Test.YtcgbdhbdlnimhaaGreatMg28
import Derived.Test.YtcgbdhbdlnimhaaGreatMg26
/- ItemsTx: the text of a library, by both packages. -/
namespace Go.Proofs.YtcgbdhbdlnimhaaGreat
open Go.ChangeShapes Go.WideShapes Go.ChangeAt Go.RowKit

def itemLine (x : Item) : List Int := chars x.name ++ (32 :: (x.pattern.map hexV ++ [10]))
def itemsCh (l : List Item) : List Int := l.flatMap itemLine
def itemsTextB (l : List Item) : ByteArray := if okItems l then strOfNums (itemsCh l) else ByteArray.empty
theorem nameB_size {s : ByteArray} (h : nameB (chars s) = true) : s.size ≤ 12 := by
  rw [← chars_len]
  cases hc : chars s with
  | nil => simp
  | cons c l =>
    rw [hc] at h
    simp only [nameB, Bool.and_eq_true, decide_eq_true_eq] at h
    simp; omega
theorem itemLine_len {l : List Item} {k : Nat} (h : okItems l = true) (hk : k < l.length) : (itemLine (nth l k)).length ≤ 26 := by
  have h1 := nameB_size (okItemAt_name (okItems_at h hk))
  have h2 := (throwsB_nth (okPat_throws (okItemAt_pat (okItems_at h hk)))).2.2
  unfold itemLine
  simp only [List.length_append, List.length_cons, List.length_map, chars_len, List.length_nil]
  omega
theorem itemsCh_step (l : List Item) (k : Nat) (hk : k < l.length) : itemsCh (l.take (k + 1)) = itemsCh (l.take k) ++ itemLine (nth l k) := by
  unfold itemsCh; rw [take_nth l k hk, List.flatMap_append]; simp
theorem itemsCh_len {l : List Item} (h : okItems l = true) : ∀ k, k ≤ l.length → (itemsCh (l.take k)).length ≤ k * 26
  | 0, _ => by simp [itemsCh]
  | k + 1, hk => by
    rw [itemsCh_step l k hk, List.length_append]
    have h1 := itemsCh_len h k (by omega)
    have h2 := itemLine_len h hk
    omega
theorem itemLine_str (x : Item) : (x.name ++ (⟨#[32]⟩ : ByteArray)) ++ strOfNums (x.pattern.map hexV) ++ (⟨#[10]⟩ : ByteArray) = strOfNums (itemLine x) := by
  unfold itemLine
  have e1 : (⟨#[32]⟩ : ByteArray) = strOfNums [32] := rfl
  have e2 : (⟨#[10]⟩ : ByteArray) = strOfNums [10] := rfl
  have e3 : x.name = strOfNums (chars x.name) := (strOf_chars _).symm
  rw [e1, e2]
  conv => lhs; rw [e3]
  rw [← strOf_append, ← strOf_append, ← strOf_append]
  congr 1
  simp
set_option maxHeartbeats 2000000 in
theorem iItemsText_c (v : Value) (l : List Item) (w : World) (hv : ItemsAt w v l) : Calls Tryz.prog 27 #[v] w (Gives (.string (itemsTextB l)) w) := by
  have HQ := Lib.hid (iValidItems_c v l w hv)
  obtain ⟨a, n, cap, rfl, hn, hl, hm, hc⟩ := hv
  have Hc := Lib.hid hc; clear hc
  cases hE : okItems l
  · have HR : Hid (itemsTextB l = ByteArray.empty) := Lib.hid (by unfold itemsTextB; rw [hE]; rfl)
    rw [hE] at HQ
    clear hE hn
    go_enter Tryz.func27, Tryz.ntmps27
    go_wp2_with fail
    refine HQ.out.mono ?_
    rintro e w1 ⟨rfl, hb1⟩
    go_wp2
    go_ret
    exact Gives.str' HR.out hb1
  · have HR : Hid (itemsTextB l = strOfNums (itemsCh l)) := Lib.hid (by unfold itemsTextB; rw [hE]; rfl)
    have HE := Lib.hid hE
    have hn60 : n ≤ 60 := by rw [hn]; exact okItems_len hE
    have Hn := Lib.hid hn
    rw [hE] at HQ
    clear hE hn
    go_enter Tryz.func27, Tryz.ntmps27
    go_wp2_with fail
    refine HQ.out.mono ?_
    rintro e w1 ⟨rfl, hb1⟩
    clear HQ
    go_wp2
    go_loopw [3, 11] (fun s i wr => ∃ (k : Nat) (t : ByteArray), i = .int .i64 k ∧ k ≤ n ∧ s = .string t ∧ Hid (t = strOfNums (itemsCh (l.take k))) ∧ Below w.heap.size w wr) (fun _ i _ => n - (intOf i).toNat)
    case atStart => exact ⟨0, _, rfl, Nat.zero_le _, rfl, Lib.hid rfl, hb1⟩
    case round =>
      obtain ⟨k, t, rfl, hk, rfl, HT, hb⟩ := hrel
      by_cases hlt : k < n
      · have hkl : k < l.length := by rw [← Hn.out]; exact hlt
        obtain ⟨b, o, pa, pn, pc, rfl, hbs, hsz, hp, c0, c1⟩ := item_cells (Hc.out.below hb) k hkl
        have HP := Lib.hid hp; clear hp
        have hon := nameB_size (okItemAt_name (okItems_at HE.out hkl))
        have hop := okItemAt_pat (okItems_at HE.out hkl)
        have hts : t.size ≤ 1560 := by rw [HT.out, strOfNums_size]; have := itemsCh_len HE.out k (by omega); omega
        have hps := patText_size (nth l k).pattern
        have HPT : Hid (patText (nth l k).pattern = strOfNums ((nth l k).pattern.map hexV)) := Lib.hid (by unfold patText; rw [if_pos hop])
        have HT2 : Hid (t ++ ((nth l k).name ++ (⟨#[32]⟩ : ByteArray) ++ patText (nth l k).pattern ++ (⟨#[10]⟩ : ByteArray)) = strOfNums (itemsCh (l.take (k + 1)))) := Lib.hid (by rw [HPT.out, itemLine_str, HT.out, ← strOf_append, itemsCh_step l k hkl])
        have HQ := Lib.hid (fun W x => patternText_c (.slice pa pn pc) (nth l k).pattern W x)
        clear hkl hop HPT HT
        generalize (nth l k).name = xn at *
        generalize patText (nth l k).pattern = pt at *
        go_wp2
        generalize hG : World.alloc wr (.cells #[.string xn, .slice pa pn pc] 62) = wx at *
        have hbx : Below wr.heap.size wr wx := by rw [← hG]; go_grown
        have HB : Hid (BoxIs wx wr.heap.size [.string xn, .slice pa pn pc]) := Lib.hid (by rw [← hG]; exact BoxIs.new _ _ _)
        clear hG c0 c1
        have k0 := cell_regrown (HB.out.2.1 0)
        have k1 := cell_regrown (HB.out.2.1 1)
        have HPx := Lib.hid (HP.out.below hbx)
        refine wp_region_quiet_below (by kernel_rfl) (by kernel_rfl) ?_
        repeat (first | go_big_quiet_step (exact Calls.regrown_of (HQ.out _ (HPx.out.below (below_regrown _ _ _)))) | quiet_step (exact Calls.regrown_of (HQ.out _ (HPx.out.below (below_regrown _ _ _)))))
        refine wpQuiet_nil ?_
        intro _ hw'
        obtain ⟨⟨dq, osq⟩, hw''⟩ := hw'
        subst hw''
        have hbq := below_regrown wx dq osq
        generalize Go.Sort.grow (redrawn wx dq) osq = wq at *
        go_wp2
        exact ⟨⟨k + 1, _, by go_num, hlt, rfl, HT2, bthen hb (bthen hbx hbq)⟩, by simp [intOf]; omega⟩
      · obtain rfl : k = n := by omega
        have HR2 : Hid (itemsTextB l = t) := Lib.hid (by rw [HR.out, HT.out, List.take_of_length_le (by rw [Hn.out]; exact Nat.le_refl _)])
        go_wp2
        go_ret
        exact Gives.str' HR2.out hb
set_option maxHeartbeats 2000000 in
theorem l22Text_c (v : Value) (l : List Item) (w : World) (hv : ItemsAt w v l) (hok : okItems l = true) : Calls Tryz.prog 72 #[v] w (Gives (.string (strOfNums (itemsCh l))) w) := by
  obtain ⟨a, n, cap, rfl, hn, hl, hm, hc⟩ := hv
  have Hc := Lib.hid hc; clear hc
  have HE := Lib.hid hok
  have hn60 : n ≤ 60 := by rw [hn]; exact okItems_len hok
  have Hn := Lib.hid hn
  clear hn hok
  go_enter Tryz.func72, Tryz.ntmps72
  go_wp2
  go_loopw [3, 4] (fun s i wr => ∃ (k : Nat) (a' : Option Addr) (n' c' : Nat), i = .int .i64 k ∧ k ≤ n ∧ s = .slice a' n' c' ∧ Hid (OwnBytes wr w.heap.size (.slice a' n' c') (itemsCh (l.take k))) ∧ Below w.heap.size w wr) (fun _ i _ => n - (intOf i).toNat)
  case atStart => exact ⟨0, _, _, _, rfl, Nat.zero_le _, rfl, Lib.hid (own_bytes_empty w), by go_grown⟩
  case round =>
    obtain ⟨k, a', n', c', rfl, hk, rfl, HO, hb⟩ := hrel
    by_cases hlt : k < n
    · have hkl : k < l.length := by rw [← Hn.out]; exact hlt
      obtain ⟨b, o, pa, pn, pc, rfl, hbs, hsz, hp, c0, c1⟩ := item_cells Hc.out k hkl
      have HP := Lib.hid hp; clear hp
      have hon := nameB_size (okItemAt_name (okItems_at HE.out hkl))
      have hop := okItemAt_pat (okItems_at HE.out hkl)
      have hcl := itemsCh_len HE.out k (by omega)
      have hps : (strOfNums ((nth l k).pattern.map hexV)).size ≤ 12 := by rw [strOfNums_size, List.length_map]; exact (throwsB_nth (okPat_throws hop)).2.2
      have HI : Hid (chars ((nth l k).name ++ (⟨#[32]⟩ : ByteArray) ++ strOfNums ((nth l k).pattern.map hexV) ++ (⟨#[10]⟩ : ByteArray)) = itemLine (nth l k)) := Lib.hid (by
        rw [itemLine_str, chars_strOf]
        intro x hx
        unfold itemLine at hx
        simp only [List.mem_append, List.mem_cons, List.not_mem_nil, or_false] at hx
        rcases hx with hx | rfl | hx | rfl
        · exact chars_in _ x hx
        · omega
        · exact hex_bytes (okPat_mem hop) x hx
        · omega)
      have HS : Hid (itemsCh (l.take (k + 1)) = itemsCh (l.take k) ++ itemLine (nth l k)) := Lib.hid (itemsCh_step l k hkl)
      have HQ := Lib.hid (fun W x => l02Text_c (.slice pa pn pc) (nth l k).pattern W x (okPat_mem hop) (by have := (throwsB_nth (okPat_throws hop)).2.2; omega))
      have hA : ((nth l k).name ++ (⟨#[32]⟩ : ByteArray) ++ strOfNums ((nth l k).pattern.map hexV) ++ (⟨#[10]⟩ : ByteArray)).size ≤ 26 := by rw [← chars_len, HI.out]; exact itemLine_len HE.out hkl
      clear hkl hop
      generalize itemLine (nth l k) = il at *
      generalize (nth l k).name = xn at *
      generalize strOfNums ((nth l k).pattern.map hexV) = pt at *
      have hq1 : ¬ 9223372036854775807 < xn.size + 1 := by omega
      have hq2 : ¬ 9223372036854775807 < xn.size + 1 + pt.size := by omega
      have hq3 : ¬ 9223372036854775807 < xn.size + 1 + pt.size + 1 := by omega
      go_wp2
      refine wp_region_held_drew (S := fun w' => Below w.heap.size w w') (by kernel_rfl) (by exact (hb).drew) (fun hHeld => ?_)
      refine wpAnyH_take (i := 0) (oi := ⟨_, _, _, _, _, _⟩) (v := ?_) rfl (by kernel_rfl) (by kernel_rfl) (by kernel_rfl) (fun _ _ _ h => h) (Or.inl ⟨by rfl, ?_⟩) (by assumption) ?_; rotate_left; (focus (intro w hSw; (try dsimp only at hSw); go_simp; try with_reducible rfl)); (try simp only [Act.put, List.setIfInBounds_toArray, List.set_cons_zero, List.set_cons_succ])
      refine wpAnyH_take (i := 1) (oi := ⟨_, _, _, _, _, _⟩) (v := ?_) rfl (by kernel_rfl) (by kernel_rfl) (by kernel_rfl) (fun _ _ _ h => h) (Or.inl ⟨by rfl, ?_⟩) (by assumption) ?_; rotate_left; (focus (intro w hSw; (try dsimp only at hSw); go_simp; try with_reducible rfl)); (try simp only [Act.put, List.setIfInBounds_toArray, List.set_cons_zero, List.set_cons_succ])
      refine wpAnyH_take (i := 2) (oi := ⟨_, _, _, _, _, _⟩) (v := ?_) rfl (by kernel_rfl) (by kernel_rfl) (by kernel_rfl) (fun _ _ _ h => h) (Or.inl ⟨by rfl, ?_⟩) (by assumption) ?_; rotate_left; (focus (intro w hSw; (try dsimp only at hSw); go_simp; try with_reducible rfl)); (try simp only [Act.put, List.setIfInBounds_toArray, List.set_cons_zero, List.set_cons_succ])
      refine wpAnyH_take (i := 3) (oi := ⟨_, _, _, _, _, _⟩) (v := ?_) rfl (by kernel_rfl) (by kernel_rfl) (by kernel_rfl) (fun _ _ _ h => h) (Or.inl ⟨by rfl, ?_⟩) (by assumption) ?_; rotate_left; (focus (intro w hSw; (try dsimp only at hSw); go_simp; try with_reducible rfl)); (try simp only [Act.put, List.setIfInBounds_toArray, List.set_cons_zero, List.set_cons_succ])
      refine wpAnyH_take (i := 4) (oi := ⟨_, _, _, _, _, _⟩) (v := ?_) rfl (by kernel_rfl) (by kernel_rfl) (by kernel_rfl) (fun _ _ _ h => h) (Or.inl ⟨by rfl, ?_⟩) (by assumption) ?_; rotate_left; (focus (intro w hSw; (try dsimp only at hSw); go_simp; try with_reducible rfl)); (try simp only [Act.put, List.setIfInBounds_toArray, List.set_cons_zero, List.set_cons_succ])
      refine wpAnyH_take (i := 5) (oi := ⟨_, _, _, _, _, _⟩) (v := ?_) rfl (by kernel_rfl) (by kernel_rfl) (by kernel_rfl) (fun _ _ _ h => h) (Or.inl ⟨by rfl, ?_⟩) (by assumption) ?_; rotate_left; (focus (intro w hSw; (try dsimp only at hSw); have t0 := cell_then hbs c0 hSw; have t1 := cell_then hbs c1 hSw; go_simp; try with_reducible rfl)); (try simp only [Act.put, List.setIfInBounds_toArray, List.set_cons_zero, List.set_cons_succ])
      refine wpAnyH_take (i := 6) (oi := ⟨_, _, _, _, _, _⟩) (v := ?_) rfl (by kernel_rfl) (by kernel_rfl) (by kernel_rfl) (fun _ _ _ h => h) (Or.inl ⟨by rfl, ?_⟩) (by assumption) ?_; rotate_left; (focus (intro w hSw; (try dsimp only at hSw); go_simp; try with_reducible rfl)); (try simp only [Act.put, List.setIfInBounds_toArray, List.set_cons_zero, List.set_cons_succ])
      refine wpAnyH_take (i := 7) (oi := ⟨_, _, _, _, _, _⟩) (v := ?_) rfl (by kernel_rfl) (by kernel_rfl) (by kernel_rfl) (fun _ _ _ h => h) (Or.inl ⟨by rfl, ?_⟩) (by assumption) ?_; rotate_left; (focus (intro w hSw; (try dsimp only at hSw); go_simp; try with_reducible rfl)); (try simp only [Act.put, List.setIfInBounds_toArray, List.set_cons_zero, List.set_cons_succ])
      refine wpAnyH_take (i := 8) (oi := ⟨_, _, _, _, _, _⟩) (v := ?_) rfl (by kernel_rfl) (by kernel_rfl) (by kernel_rfl) (fun _ _ _ h => h) (Or.inl ⟨by rfl, ?_⟩) (by assumption) ?_; rotate_left; (focus (intro w hSw; (try dsimp only at hSw); go_simp; try with_reducible rfl)); (try simp only [Act.put, List.setIfInBounds_toArray, List.set_cons_zero, List.set_cons_succ])
      refine wpAnyH_take (i := 9) (oi := ⟨_, _, _, _, _, _⟩) (v := ?_) rfl (by kernel_rfl) (by kernel_rfl) (by kernel_rfl) (fun _ _ _ h => h) (Or.inl ⟨by rfl, ?_⟩) (by assumption) ?_; rotate_left; (focus (intro w hSw; (try dsimp only at hSw); go_simp; try with_reducible rfl)); (try simp only [Act.put, List.setIfInBounds_toArray, List.set_cons_zero, List.set_cons_succ])
      refine wpAnyH_take (i := 10) (oi := ⟨_, _, _, _, _, _⟩) (v := ?_) rfl (by kernel_rfl) (by kernel_rfl) (by kernel_rfl) (fun _ _ _ h => h) (Or.inl ⟨by rfl, ?_⟩) (by assumption) ?_; rotate_left; (focus (intro w hSw; (try dsimp only at hSw); go_simp; try with_reducible rfl)); (try simp only [Act.put, List.setIfInBounds_toArray, List.set_cons_zero, List.set_cons_succ])
      refine wpAnyH_take (i := 11) (oi := ⟨_, _, _, _, _, _⟩) (v := ?_) rfl (by kernel_rfl) (by kernel_rfl) (by kernel_rfl) (fun _ _ _ h => h) (Or.inl ⟨by rfl, ?_⟩) (by assumption) ?_; rotate_left; (focus (intro w hSw; (try dsimp only at hSw); have t0 := cell_then hbs c0 hSw; have t1 := cell_then hbs c1 hSw; go_simp; try with_reducible rfl)); (try simp only [Act.put, List.setIfInBounds_toArray, List.set_cons_zero, List.set_cons_succ])
      refine wpAnyH_ready (rs := [12]) (by kernel_rfl) (by simp) ?_
      refine AllReadyH.cons (o := ⟨_, _, _, _, _, _⟩) rfl (fun K hK => ?_) AllReadyH.nil
      go_simp
      go_at_call 103; (with_reducible refine (HQ.out _ (HP.out.below hHeld)).mono ?_); rintro e x1 ⟨rfl, d1⟩; have hS' := bthen hHeld d1; have hd1 := below_of_drew d1
      refine hK.out _ _ (by exact hS') (fun hHeld' => ?_)
      clear hHeld hK K
      have hHeld := hHeld'
      clear hHeld'
      try simp only [Act.put, List.setIfInBounds_toArray, List.set_cons_zero, List.set_cons_succ]
      refine wpAnyH_take (i := 13) (oi := ⟨_, _, _, _, _, _⟩) (v := ?_) rfl (by kernel_rfl) (by kernel_rfl) (by kernel_rfl) (fun _ _ _ h => h) (Or.inl ⟨by rfl, ?_⟩) (by assumption) ?_; rotate_left; (focus (intro w hSw; (try dsimp only at hSw); go_simp; try with_reducible rfl)); (try simp only [Act.put, List.setIfInBounds_toArray, List.set_cons_zero, List.set_cons_succ])
      refine wpAnyH_take (i := 14) (oi := ⟨_, _, _, _, _, _⟩) (v := ?_) rfl (by kernel_rfl) (by kernel_rfl) (by kernel_rfl) (fun _ _ _ h => h) (Or.inl ⟨by rfl, ?_⟩) (by assumption) ?_; rotate_left; (focus (intro w hSw; (try dsimp only at hSw); go_simp; try with_reducible rfl)); (try simp only [Act.put, List.setIfInBounds_toArray, List.set_cons_zero, List.set_cons_succ])
      refine wpAnyH_ready (rs := [15]) (by kernel_rfl) (by simp) ?_
      refine AllReadyH.cons (o := ⟨_, _, _, _, _, _⟩) rfl (fun K hK => ?_) AllReadyH.nil
      refine step_app_text rfl _ _ rfl w.heap.size _ _ rfl (own_below HO.out hd1) _ rfl (by omega) hHeld.size ?_; intro a6 n6 c6 w6 ho6 hg6; have hS' := hHeld.grown hg6 hHeld.size (fun g hg => (World.ownsRow.lt HO.out g hg).1)
      refine hK.out _ _ (by exact hS') (fun hHeld' => ?_)
      clear hHeld hK K
      have hHeld := hHeld'
      clear hHeld'
      try simp only [Act.put, List.setIfInBounds_toArray, List.set_cons_zero, List.set_cons_succ]
      refine wpAnyH_take (i := 16) (oi := ⟨_, _, _, _, _, _⟩) (v := ?_) rfl (by kernel_rfl) (by kernel_rfl) (by kernel_rfl) (fun _ _ _ h => h) (Or.inl ⟨by rfl, ?_⟩) (by assumption) ?_; rotate_left; (focus (intro w hSw; (try dsimp only at hSw); go_simp; try with_reducible rfl)); (try simp only [Act.put, List.setIfInBounds_toArray, List.set_cons_zero, List.set_cons_succ])
      refine wpAnyH_done (by kernel_rfl) ?_ _
      have HO6 : Hid (OwnBytes w6 w.heap.size (.slice a6 n6 c6) (itemsCh (l.take (k + 1)))) := Lib.hid (by rw [HS.out, ← HI.out]; exact ho6)
      clear ho6 hg6
      go_wp2
      exact ⟨⟨k + 1, a6, n6, c6, by go_num, hlt, rfl, HO6, hHeld⟩, by simp [intOf]; omega⟩
    · obtain rfl : k = n := by omega
      have hcv := own_bytes_text HO.out
      have HR : Hid (strOfNums (itemsCh l) = strOfNums (itemsCh (l.take k))) := Lib.hid (by rw [List.take_of_length_le (by rw [Hn.out]; exact Nat.le_refl _)])
      have hcv2 := hcv 9 Tryz.underlying9
      go_wp2
      go_ret
      exact Gives.str' HR.out hb
theorem sItemsText_c (v : Value) (l : List Item) (w : World) (hv : ItemsAt w v l) : Calls Tryz.prog 35 #[v] w (Gives (.string (itemsTextB l)) w) := by
  have HV := Lib.hid hv
  have HQ := Lib.hid (l22Ok_c v l w hv)
  have HT := Lib.hid (fun W x h => l22Text_c v l W x h)
  have HR1 : Hid (okItems l = false → itemsTextB l = ByteArray.empty) := Lib.hid (fun h => by unfold itemsTextB; rw [h]; rfl)
  have HR2 : Hid (okItems l = true → itemsTextB l = strOfNums (itemsCh l)) := Lib.hid (fun h => by unfold itemsTextB; rw [h]; rfl)
  clear hv
  generalize okItems l = ok at *
  go_enter Tryz.func35, Tryz.ntmps35
  go_wp2_with fail
  refine HQ.out.mono ?_
  rintro e w1 ⟨rfl, hb1⟩
  cases ok
  · have HR := Lib.hid (HR1.out rfl)
    go_wp2
    go_ret
    exact Gives.str' HR.out hb1
  · have HR := Lib.hid (HR2.out rfl)
    have HT2 := Lib.hid (HT.out w1 (HV.out.below hb1) rfl)
    clear HT HR1 HR2
    go_wp2_with fail
    refine HT2.out.mono ?_
    rintro e w2 ⟨rfl, hb2⟩
    go_wp2
    go_ret
    exact Gives.str' HR.out (bthen hb1 hb2)
end Go.Proofs.YtcgbdhbdlnimhaaGreat
