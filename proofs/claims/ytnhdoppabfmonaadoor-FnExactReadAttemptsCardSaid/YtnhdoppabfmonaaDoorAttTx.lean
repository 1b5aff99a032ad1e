/- AttTx: the text of attempts, by both packages. -/
import Derived.Test.YtnhdoppabfmonaaDoorDec
import Derived.Test.YtnhdoppabfmonaaDoorBytesT
import Derived.Test.YtnhdoppabfmonaaDoorPatR
import Derived.Test.YtnhdoppabfmonaaDoorValidAtts
import Derived.Deep.RegionHeld3
namespace Go.Proofs.YtnhdoppabfmonaaDoor
open Go.ChangeShapes Go.WideShapes Go.ChangeAt Go.RowKit

def attHead (x : Att) : List Int := x.pattern.map hexV ++ (32 :: chars (decB x.catches))
def attTail (x : Att) : List Int := (if x.dropped then [32, 100, 114, 111, 112] else []) ++ [10]
def attLine (x : Att) : List Int := attHead x ++ attTail x
def attsCh (l : List Att) : List Int := l.flatMap attLine
def attsTextB (l : List Att) : ByteArray := if okAtts l then strOfNums (attsCh l) else ByteArray.empty
theorem abelow_of_drew {w w' : World} (h : Below w.drew.heap.size w.drew w') : Below w.heap.size w w' := ((Below.refl w.heap.size w).drew).trans h
theorem attHead_len {l : List Att} {k : Nat} (h : okAtts l = true) (hk : k < l.length) : (attHead (nth l k)).length ≤ 33 := by
  obtain ⟨h1, h2, h3⟩ := (okAtts_nth h).1 k hk
  have h4 := (throwsB_nth (okPat_throws h1)).2.2
  have h5 := decB_size (nth l k).catches (by omega) (by omega)
  unfold attHead
  simp only [List.length_append, List.length_cons, List.length_map, chars_len]
  omega
theorem attLine_len {l : List Att} {k : Nat} (h : okAtts l = true) (hk : k < l.length) : (attLine (nth l k)).length ≤ 39 := by
  have := attHead_len h hk
  unfold attLine attTail
  rw [List.length_append, List.length_append]
  split <;> simp <;> omega
theorem attsCh_step (l : List Att) (k : Nat) (hk : k < l.length) : attsCh (l.take (k + 1)) = attsCh (l.take k) ++ attLine (nth l k) := by
  unfold attsCh; rw [take_nth l k hk, List.flatMap_append]; simp
theorem attsCh_len {l : List Att} (h : okAtts l = true) : ∀ k, k ≤ l.length → (attsCh (l.take k)).length ≤ k * 39
  | 0, _ => by simp [attsCh]
  | k + 1, hk => by
    rw [attsCh_step l k hk, List.length_append]
    have h1 := attsCh_len h k (by omega)
    have h2 := attLine_len h hk
    omega
theorem attHead_chars {x : Att} (h : okPat x.pattern = true) : chars (strOfNums (x.pattern.map hexV) ++ (⟨#[32]⟩ : ByteArray) ++ decB x.catches) = attHead x := by
  have e1 : chars (⟨#[32]⟩ : ByteArray) = [32] := rfl
  unfold attHead
  rw [chars_append, chars_append, e1, chars_strOf (hex_bytes (okPat_mem h))]
  simp
theorem attTail_yes {x : Att} (h : x.dropped = true) : attTail x = chars (⟨#[32, 100, 114, 111, 112]⟩ : ByteArray) ++ [10] := by unfold attTail; rw [h]; rfl
theorem attTail_no {x : Att} (h : x.dropped = false) : attTail x = [10] := by unfold attTail; rw [h]; rfl
set_option maxHeartbeats 2000000 in
theorem iAttemptsText_c (v : Value) (l : List Att) (w : World) (hv : AttsAt w v l) (ht : TabW w) : Calls Tryd.prog 21 #[v] w (Gives (.string (attsTextB l)) w) := by
  have HQ := Lib.hid (iValidAttempts_c v l w hv)
  obtain ⟨a, n, cap, rfl, hn, hl, hm, hc⟩ := hv
  have Hc := Lib.hid hc; clear hc
  have HTab := Lib.hid ht; clear ht
  cases hE : okAtts l
  · have HR : Hid (attsTextB l = ByteArray.empty) := Lib.hid (by unfold attsTextB; rw [hE]; rfl)
    rw [hE] at HQ
    clear hE hn
    go_enter Tryd.func21, Tryd.ntmps21
    go_wp2_with fail
    refine HQ.out.mono ?_
    rintro e w1 ⟨rfl, hb1⟩
    go_wp2
    go_ret
    exact dstr HR.out hb1
  · have HR : Hid (attsTextB l = strOfNums (attsCh l)) := Lib.hid (by unfold attsTextB; rw [hE]; rfl)
    have HE := Lib.hid hE
    have hn100 : n ≤ 100 := by rw [hn]; exact (okAtts_nth hE).2
    have Hn := Lib.hid hn
    rw [hE] at HQ
    clear hE hn
    go_enter Tryd.func21, Tryd.ntmps21
    go_wp2_with fail
    refine HQ.out.mono ?_
    rintro e w1 ⟨rfl, hb1⟩
    clear HQ
    go_wp2
    go_loopw [3, 11] (fun s i wr => ∃ (k : Nat) (t : ByteArray), i = .int .i64 k ∧ k ≤ n ∧ s = .string t ∧ Hid (t = strOfNums (attsCh (l.take k))) ∧ Below w.heap.size w wr) (fun _ i _ => n - (intOf i).toNat)
    case atStart => exact ⟨0, _, rfl, Nat.zero_le _, rfl, Lib.hid rfl, hb1⟩
    case round =>
      obtain ⟨k, t, rfl, hk, rfl, HT, hb⟩ := hrel
      by_cases hlt : k < n
      · have hkl : k < l.length := by rw [← Hn.out]; exact hlt
        obtain ⟨b, o, pa, pn, pc, rfl, hbs, hp, c0, c1, c2⟩ := att_cells (Hc.out.below hb) k hkl
        have HP := Lib.hid hp; clear hp
        obtain ⟨hop, hc0, hc1⟩ := (okAtts_nth HE.out).1 k hkl
        have hts : t.size ≤ 3900 := by rw [HT.out, strOfNums_size]; have := attsCh_len HE.out k (by omega); omega
        have hps := patText_size (nth l k).pattern
        have hs2 := decB_size (nth l k).catches (by omega) (by omega)
        have HPT : Hid (patText (nth l k).pattern = strOfNums ((nth l k).pattern.map hexV)) := Lib.hid (by unfold patText; rw [if_pos hop])
        have HH : Hid (t ++ (patText (nth l k).pattern ++ (⟨#[32]⟩ : ByteArray) ++ decB (nth l k).catches) = strOfNums (attsCh (l.take k) ++ attHead (nth l k))) := Lib.hid (by
          rw [HPT.out, strOf_append, ← HT.out, ← attHead_chars hop, strOf_chars])
        have HS : Hid (attsCh (l.take (k + 1)) = (attsCh (l.take k) ++ attHead (nth l k)) ++ attTail (nth l k)) := Lib.hid (by rw [attsCh_step l k hkl, List.append_assoc]; rfl)
        have HTy := Lib.hid (fun h => attTail_yes (x := nth l k) h)
        have HTn := Lib.hid (fun h => attTail_no (x := nth l k) h)
        have HQ := Lib.hid (fun W x => patternText_c (.slice pa pn pc) (nth l k).pattern W x)
        have HD := Lib.hid (fun W x => decimal_c (nth l k).catches (by omega) (by omega) W (HTab.out.below x))
        clear hkl hop HPT hc0 hc1
        generalize attTail (nth l k) = tl at *
        generalize attHead (nth l k) = hd at *
        generalize patText (nth l k).pattern = pt at *
        generalize decB (nth l k).catches = db at *
        generalize (nth l k).catches = xc at *
        generalize (nth l k).dropped = xd at *
        have hz : (t ++ (pt ++ (⟨#[32]⟩ : ByteArray) ++ db)).size ≤ 4000 := by
          have e1 : (⟨#[32]⟩ : ByteArray).size = 1 := rfl
          simp only [ByteArray.size_append, e1]; omega
        go_wp2
        generalize hG : World.alloc wr (.cells #[.slice pa pn pc, .int .i64 xc, .bool xd] 75) = wx at *
        have hbx : Below wr.heap.size wr wx := by rw [← hG]; go_grown
        have HB : Hid (BoxIs wx wr.heap.size [.slice pa pn pc, .int .i64 xc, .bool xd]) := Lib.hid (by rw [← hG]; exact BoxIs.new _ _ _)
        clear hG c0 c1 c2
        have k0 := cell_regrown (HB.out.2.1 0)
        have k1 := cell_regrown (HB.out.2.1 1)
        have HPx := Lib.hid (HP.out.below hbx)
        have HX2 := Lib.hid (fun W (x : Below wx.heap.size wx W) => HD.out W (bthen (bthen hb hbx) x))
        clear HD
        refine wp_region_quiet_below (by kernel_rfl) (by kernel_rfl) ?_
        repeat (first | go_big_quiet_step (first | with_reducible exact Calls.regrown_of (HX2.out _ (below_regrown _ _ _)) | exact Calls.regrown_of (HQ.out _ (HPx.out.below (below_regrown _ _ _)))) | quiet_step (first | with_reducible exact Calls.regrown_of (HX2.out _ (below_regrown _ _ _)) | exact Calls.regrown_of (HQ.out _ (HPx.out.below (below_regrown _ _ _)))))
        refine wpQuiet_nil ?_
        intro _ hw'
        obtain ⟨⟨dq, osq⟩, hw''⟩ := hw'
        subst hw''
        have hbq := below_regrown wx dq osq
        generalize Go.Sort.grow (redrawn wx dq) osq = wq at *
        have e2 := (HB.out.below hbq).2.1 2
        simp only [List.getElem?_cons_succ, List.getElem?_cons_zero] at e2
        clear k0 k1
        generalize t ++ (pt ++ (⟨#[32]⟩ : ByteArray) ++ db) = t2 at *
        cases xd
        · have HF : Hid (t2 ++ (⟨#[10]⟩ : ByteArray) = strOfNums (attsCh (l.take (k + 1)))) := Lib.hid (by rw [HS.out, HTn.out rfl, strOf_append, HH.out]; rfl)
          go_wp2
          exact ⟨⟨k + 1, _, by go_num, hlt, rfl, HF, bthen hb (bthen hbx hbq)⟩, by simp [intOf]; omega⟩
        · have HF : Hid (t2 ++ (⟨#[32, 100, 114, 111, 112]⟩ : ByteArray) ++ (⟨#[10]⟩ : ByteArray) = strOfNums (attsCh (l.take (k + 1)))) := Lib.hid (by rw [HS.out, HTy.out rfl, ← List.append_assoc, strOf_append, strOf_append, strOf_chars, HH.out]; rfl)
          go_wp2
          exact ⟨⟨k + 1, _, by go_num, hlt, rfl, HF, bthen hb (bthen hbx hbq)⟩, by simp [intOf]; omega⟩
      · obtain rfl : k = n := by omega
        have HR2 : Hid (attsTextB l = t) := Lib.hid (by rw [HR.out, HT.out, List.take_of_length_le (by rw [Hn.out]; exact Nat.le_refl _)])
        go_wp2
        go_ret
        exact dstr HR2.out hb
set_option maxHeartbeats 2000000 in
theorem l24Text_c (v : Value) (l : List Att) (w : World) (hv : AttsAt w v l) (hok : okAtts l = true) : Calls Tryd.prog 51 #[v] w (Gives (.string (strOfNums (attsCh l))) w) := by
  obtain ⟨a, n, cap, rfl, hn, hl, hm, hc⟩ := hv
  have Hc := Lib.hid hc; clear hc
  have HE := Lib.hid hok
  have hn100 : n ≤ 100 := by rw [hn]; exact (okAtts_nth hok).2
  have Hn := Lib.hid hn
  clear hn hok
  go_enter Tryd.func51, Tryd.ntmps51
  go_wp2
  go_loopw [3, 4] (fun s i wr => ∃ (k : Nat) (a' : Option Addr) (n' c' : Nat), i = .int .i64 k ∧ k ≤ n ∧ s = .slice a' n' c' ∧ Hid (OwnBytes wr w.heap.size (.slice a' n' c') (attsCh (l.take k))) ∧ Below w.heap.size w wr) (fun _ i _ => n - (intOf i).toNat)
  case atStart => exact ⟨0, _, _, _, rfl, Nat.zero_le _, rfl, Lib.hid (own_bytes_empty w), by go_grown⟩
  case round =>
    obtain ⟨k, a', n', c', rfl, hk, rfl, HO, hb⟩ := hrel
    by_cases hlt : k < n
    · have hkl : k < l.length := by rw [← Hn.out]; exact hlt
      obtain ⟨b, o, pa, pn, pc, rfl, hbs, hp, c0, c1, c2⟩ := att_cells Hc.out k hkl
      have HP := Lib.hid hp; clear hp
      obtain ⟨hop, hc0, hc1⟩ := (okAtts_nth HE.out).1 k hkl
      have hcl := attsCh_len HE.out k (by omega)
      have hs2 := decB_size (nth l k).catches (by omega) (by omega)
      have hps : (strOfNums ((nth l k).pattern.map hexV)).size ≤ 12 := by rw [strOfNums_size, List.length_map]; exact (throwsB_nth (okPat_throws hop)).2.2
      have HI : Hid (chars (strOfNums ((nth l k).pattern.map hexV) ++ (⟨#[32]⟩ : ByteArray) ++ decB (nth l k).catches) = attHead (nth l k)) := Lib.hid (attHead_chars hop)
      have hA : (strOfNums ((nth l k).pattern.map hexV) ++ (⟨#[32]⟩ : ByteArray) ++ decB (nth l k).catches).size ≤ 33 := by rw [← chars_len, HI.out]; exact attHead_len HE.out hkl
      have hAl : (attHead (nth l k)).length ≤ 33 := attHead_len HE.out hkl
      have HS : Hid (attsCh (l.take (k + 1)) = (attsCh (l.take k) ++ attHead (nth l k)) ++ attTail (nth l k)) := Lib.hid (by rw [attsCh_step l k hkl, List.append_assoc]; rfl)
      have HTy := Lib.hid (fun h => attTail_yes (x := nth l k) h)
      have HTn := Lib.hid (fun h => attTail_no (x := nth l k) h)
      have HQ := Lib.hid (fun W x => l02Text_c (.slice pa pn pc) (nth l k).pattern W x (okPat_mem hop) (by have := (throwsB_nth (okPat_throws hop)).2.2; omega))
      have HD := Lib.hid (fun W => l01Dec_c (nth l k).catches (by omega) (by omega) W)
      clear hkl hop hc0 hc1
      generalize attTail (nth l k) = tl at *
      generalize attHead (nth l k) = hdl at *
      generalize strOfNums ((nth l k).pattern.map hexV) = pt at *
      generalize decB (nth l k).catches = db at *
      generalize (nth l k).catches = xc at *
      generalize (nth l k).dropped = xd at *
      have hq1 : ¬ 9223372036854775807 < pt.size + 1 := by omega
      have hq2 : ¬ 9223372036854775807 < pt.size + 1 + db.size := by omega
      go_wp2
      refine wp_region_held_drew (S := fun w' => Below w.heap.size w w') (by kernel_rfl) (by exact (hb).drew) (fun hHeld => ?_)
      refine wpAnyH_take (i := 0) (oi := ⟨_, _, _, _, _, _⟩) (v := ?_) rfl (by kernel_rfl) (by kernel_rfl) (by kernel_rfl) (fun _ _ _ h => h) (Or.inl ⟨by rfl, ?_⟩) (by assumption) ?_; rotate_left; (focus (intro w hSw; (try dsimp only at hSw); go_simp; try with_reducible rfl)); (try simp only [Act.put, List.setIfInBounds_toArray, List.set_cons_zero, List.set_cons_succ])
      refine wpAnyH_take (i := 1) (oi := ⟨_, _, _, _, _, _⟩) (v := ?_) rfl (by kernel_rfl) (by kernel_rfl) (by kernel_rfl) (fun _ _ _ h => h) (Or.inl ⟨by rfl, ?_⟩) (by assumption) ?_; rotate_left; (focus (intro w hSw; (try dsimp only at hSw); go_simp; try with_reducible rfl)); (try simp only [Act.put, List.setIfInBounds_toArray, List.set_cons_zero, List.set_cons_succ])
      refine wpAnyH_take (i := 2) (oi := ⟨_, _, _, _, _, _⟩) (v := ?_) rfl (by kernel_rfl) (by kernel_rfl) (by kernel_rfl) (fun _ _ _ h => h) (Or.inl ⟨by rfl, ?_⟩) (by assumption) ?_; rotate_left; (focus (intro w hSw; (try dsimp only at hSw); go_simp; try with_reducible rfl)); (try simp only [Act.put, List.setIfInBounds_toArray, List.set_cons_zero, List.set_cons_succ])
      refine wpAnyH_take (i := 3) (oi := ⟨_, _, _, _, _, _⟩) (v := ?_) rfl (by kernel_rfl) (by kernel_rfl) (by kernel_rfl) (fun _ _ _ h => h) (Or.inl ⟨by rfl, ?_⟩) (by assumption) ?_; rotate_left; (focus (intro w hSw; (try dsimp only at hSw); go_simp; try with_reducible rfl)); (try simp only [Act.put, List.setIfInBounds_toArray, List.set_cons_zero, List.set_cons_succ])
      refine wpAnyH_take (i := 4) (oi := ⟨_, _, _, _, _, _⟩) (v := ?_) rfl (by kernel_rfl) (by kernel_rfl) (by kernel_rfl) (fun _ _ _ h => h) (Or.inl ⟨by rfl, ?_⟩) (by assumption) ?_; rotate_left; (focus (intro w hSw; (try dsimp only at hSw); go_simp; try with_reducible rfl)); (try simp only [Act.put, List.setIfInBounds_toArray, List.set_cons_zero, List.set_cons_succ])
      refine wpAnyH_take (i := 5) (oi := ⟨_, _, _, _, _, _⟩) (v := ?_) rfl (by kernel_rfl) (by kernel_rfl) (by kernel_rfl) (fun _ _ _ h => h) (Or.inl ⟨by rfl, ?_⟩) (by assumption) ?_; rotate_left; (focus (intro w hSw; (try dsimp only at hSw); have t0 := cell_then hbs c0 hSw; have t1 := cell_then hbs c1 hSw; go_simp; try with_reducible rfl)); (try simp only [Act.put, List.setIfInBounds_toArray, List.set_cons_zero, List.set_cons_succ])
      refine wpAnyH_take (i := 8) (oi := ⟨_, _, _, _, _, _⟩) (v := ?_) rfl (by kernel_rfl) (by kernel_rfl) (by kernel_rfl) (fun _ _ _ h => h) (Or.inl ⟨by rfl, ?_⟩) (by assumption) ?_; rotate_left; (focus (intro w hSw; (try dsimp only at hSw); go_simp; try with_reducible rfl)); (try simp only [Act.put, List.setIfInBounds_toArray, List.set_cons_zero, List.set_cons_succ])
      refine wpAnyH_take (i := 9) (oi := ⟨_, _, _, _, _, _⟩) (v := ?_) rfl (by kernel_rfl) (by kernel_rfl) (by kernel_rfl) (fun _ _ _ h => h) (Or.inl ⟨by rfl, ?_⟩) (by assumption) ?_; rotate_left; (focus (intro w hSw; (try dsimp only at hSw); go_simp; try with_reducible rfl)); (try simp only [Act.put, List.setIfInBounds_toArray, List.set_cons_zero, List.set_cons_succ])
      refine wpAnyH_take (i := 10) (oi := ⟨_, _, _, _, _, _⟩) (v := ?_) rfl (by kernel_rfl) (by kernel_rfl) (by kernel_rfl) (fun _ _ _ h => h) (Or.inl ⟨by rfl, ?_⟩) (by assumption) ?_; rotate_left; (focus (intro w hSw; (try dsimp only at hSw); go_simp; try with_reducible rfl)); (try simp only [Act.put, List.setIfInBounds_toArray, List.set_cons_zero, List.set_cons_succ])
      refine wpAnyH_take (i := 11) (oi := ⟨_, _, _, _, _, _⟩) (v := ?_) rfl (by kernel_rfl) (by kernel_rfl) (by kernel_rfl) (fun _ _ _ h => h) (Or.inl ⟨by rfl, ?_⟩) (by assumption) ?_; rotate_left; (focus (intro w hSw; (try dsimp only at hSw); go_simp; try with_reducible rfl)); (try simp only [Act.put, List.setIfInBounds_toArray, List.set_cons_zero, List.set_cons_succ])
      refine wpAnyH_take (i := 12) (oi := ⟨_, _, _, _, _, _⟩) (v := ?_) rfl (by kernel_rfl) (by kernel_rfl) (by kernel_rfl) (fun _ _ _ h => h) (Or.inl ⟨by rfl, ?_⟩) (by assumption) ?_; rotate_left; (focus (intro w hSw; (try dsimp only at hSw); have t0 := cell_then hbs c0 hSw; have t1 := cell_then hbs c1 hSw; go_simp; try with_reducible rfl)); (try simp only [Act.put, List.setIfInBounds_toArray, List.set_cons_zero, List.set_cons_succ])
      refine wpAnyH_ready (rs := [6]) (by kernel_rfl) (by simp) ?_
      refine AllReadyH.cons (o := ⟨_, _, _, _, _, _⟩) rfl (fun K hK => ?_) AllReadyH.nil
      go_simp
      go_at_call 83; (with_reducible refine (HQ.out _ (HP.out.below hHeld)).mono ?_); rintro e x1 ⟨rfl, d1⟩; have hS' := bthen hHeld d1; first | (have hd2 := bthen hd1 d1; clear hd1; have hd1 := hd2; clear hd2) | (have hd1 := abelow_of_drew d1)
      refine hK.out _ _ (by exact hS') (fun hHeld' => ?_)
      clear hHeld hK K
      have hHeld := hHeld'
      clear hHeld'
      try simp only [Act.put, List.setIfInBounds_toArray, List.set_cons_zero, List.set_cons_succ]
      refine wpAnyH_take (i := 7) (oi := ⟨_, _, _, _, _, _⟩) (v := ?_) rfl (by kernel_rfl) (by kernel_rfl) (by kernel_rfl) (fun _ _ _ h => h) (Or.inl ⟨by rfl, ?_⟩) (by assumption) ?_; rotate_left; (focus (intro w hSw; (try dsimp only at hSw); go_simp; try with_reducible rfl)); (try simp only [Act.put, List.setIfInBounds_toArray, List.set_cons_zero, List.set_cons_succ])
      refine wpAnyH_ready (rs := [13]) (by kernel_rfl) (by simp) ?_
      refine AllReadyH.cons (o := ⟨_, _, _, _, _, _⟩) rfl (fun K hK => ?_) AllReadyH.nil
      go_simp
      go_at_call 74; (with_reducible refine (HD.out _).mono ?_); rintro e x1 ⟨rfl, d1⟩; have hS' := bthen hHeld d1; first | (have hd2 := bthen hd1 d1; clear hd1; have hd1 := hd2; clear hd2) | (have hd1 := abelow_of_drew d1)
      refine hK.out _ _ (by exact hS') (fun hHeld' => ?_)
      clear hHeld hK K
      have hHeld := hHeld'
      clear hHeld'
      try simp only [Act.put, List.setIfInBounds_toArray, List.set_cons_zero, List.set_cons_succ]
      refine wpAnyH_take (i := 14) (oi := ⟨_, _, _, _, _, _⟩) (v := ?_) rfl (by kernel_rfl) (by kernel_rfl) (by kernel_rfl) (fun _ _ _ h => h) (Or.inl ⟨by rfl, ?_⟩) (by assumption) ?_; rotate_left; (focus (intro w hSw; (try dsimp only at hSw); go_simp; try with_reducible rfl)); (try simp only [Act.put, List.setIfInBounds_toArray, List.set_cons_zero, List.set_cons_succ])
      refine wpAnyH_ready (rs := [15]) (by kernel_rfl) (by simp) ?_
      refine AllReadyH.cons (o := ⟨_, _, _, _, _, _⟩) rfl (fun K hK => ?_) AllReadyH.nil
      refine step_app_text rfl _ _ rfl w.heap.size _ _ rfl (own_below HO.out hd1) _ rfl (by omega) hHeld.size ?_; intro a6 n6 c6 w6 ho6 hg6; have hS' := hHeld.grown hg6 hHeld.size (fun g hg => (World.ownsRow.lt HO.out g hg).1)
      refine hK.out _ _ (by exact hS') (fun hHeld' => ?_)
      clear hHeld hK K
      have hHeld := hHeld'
      clear hHeld'
      try simp only [Act.put, List.setIfInBounds_toArray, List.set_cons_zero, List.set_cons_succ]
      refine wpAnyH_take (i := 16) (oi := ⟨_, _, _, _, _, _⟩) (v := ?_) rfl (by kernel_rfl) (by kernel_rfl) (by kernel_rfl) (fun _ _ _ h => h) (Or.inl ⟨by rfl, ?_⟩) (by assumption) ?_; rotate_left; (focus (intro w hSw; (try dsimp only at hSw); go_simp; try with_reducible rfl)); (try simp only [Act.put, List.setIfInBounds_toArray, List.set_cons_zero, List.set_cons_succ])
      refine wpAnyH_done (by kernel_rfl) ?_ _
      have HO6 : Hid (OwnBytes w6 w.heap.size (.slice a6 n6 c6) (attsCh (l.take k) ++ hdl)) := Lib.hid (by rw [← HI.out]; exact ho6)
      clear ho6 hg6
      have c2' := cell_then hbs c2 hHeld
      have hs6 := hHeld.size
      cases xd
      · have HTl := Lib.hid (HTn.out rfl)
        clear HTy HTn
        go_wp2_with (at_builtin; refine wpList_app_bytes rfl _ _ rfl w.heap.size _ _ rfl (HO6.out.alloc _) _ _ _ [10] rfl rfl (bytes_new _ _ _) (by rw [List.length_append]; simp only [List.length_cons, List.length_nil]; omega) (by simp; omega) ?_)
        intro a7 n7 c7 w7 ho7 hg7 _ _
        have hb7 : Below w.heap.size w w7 := (hHeld.alloc hs6 _).grown hg7 (by simp; omega) (fun g hg => (World.ownsRow.lt HO6.out g hg).1)
        have HO7 : Hid (OwnBytes w7 w.heap.size (.slice a7 n7 c7) (attsCh (l.take (k + 1)))) := Lib.hid (by rw [HS.out, HTl.out]; simpa [List.append_assoc] using ho7)
        clear ho7 hg7 HO6
        go_wp2
        exact ⟨⟨k + 1, a7, n7, c7, by go_num, hlt, rfl, HO7, hb7⟩, by simp [intOf]; omega⟩
      · have HTl := Lib.hid (HTy.out rfl)
        clear HTy HTn
        go_wp2_with (at_builtin; refine wpList_app_text rfl _ _ rfl w.heap.size _ _ rfl HO6.out ⟨#[32, 100, 114, 111, 112]⟩ rfl (by rw [List.length_append]; have e5 : (⟨#[32, 100, 114, 111, 112]⟩ : ByteArray).size = 5 := rfl; omega) hs6 ?_)
        intro a8 n8 c8 w8 ho8 hg8
        have hb8 : Below w.heap.size w w8 := hHeld.grown hg8 hs6 (fun g hg => (World.ownsRow.lt HO6.out g hg).1)
        have hs8 := hb8.size
        have HO8 := Lib.hid ho8
        clear ho8 hg8 HO6
        go_wp2_with (at_builtin; refine wpList_app_bytes rfl _ _ rfl w.heap.size _ _ rfl (HO8.out.alloc _) _ _ _ [10] rfl rfl (bytes_new _ _ _) (by rw [List.length_append, List.length_append, chars_len]; have e5 : (⟨#[32, 100, 114, 111, 112]⟩ : ByteArray).size = 5 := rfl; simp only [List.length_cons, List.length_nil]; omega) (by simp; omega) ?_)
        intro a7 n7 c7 w7 ho7 hg7 _ _
        have hb7 : Below w.heap.size w w7 := (hb8.alloc hs8 _).grown hg7 (by simp; omega) (fun g hg => (World.ownsRow.lt HO8.out g hg).1)
        have HO7 : Hid (OwnBytes w7 w.heap.size (.slice a7 n7 c7) (attsCh (l.take (k + 1)))) := Lib.hid (by rw [HS.out, HTl.out]; simpa [List.append_assoc] using ho7)
        clear ho7 hg7 HO8
        go_wp2
        exact ⟨⟨k + 1, a7, n7, c7, by go_num, hlt, rfl, HO7, hb7⟩, by simp [intOf]; omega⟩
    · obtain rfl : k = n := by omega
      have hcv := own_bytes_text HO.out
      have HR : Hid (strOfNums (attsCh l) = strOfNums (attsCh (l.take k))) := Lib.hid (by rw [List.take_of_length_le (by rw [Hn.out]; exact Nat.le_refl _)])
      have hcv2 := hcv 9 Tryd.underlying9
      go_wp2
      go_ret
      exact dstr HR.out hb
theorem sAttemptsText_c (v : Value) (l : List Att) (w : World) (hv : AttsAt w v l) : Calls Tryd.prog 19 #[v] w (Gives (.string (attsTextB l)) w) := by
  have HV := Lib.hid hv
  have HQ := Lib.hid (l24Ok_c v l w hv)
  have HT := Lib.hid (fun W x h => l24Text_c v l W x h)
  have HR1 : Hid (okAtts l = false → attsTextB l = ByteArray.empty) := Lib.hid (fun h => by unfold attsTextB; rw [h]; rfl)
  have HR2 : Hid (okAtts l = true → attsTextB l = strOfNums (attsCh l)) := Lib.hid (fun h => by unfold attsTextB; rw [h]; rfl)
  clear hv
  generalize okAtts l = ok at *
  go_enter Tryd.func19, Tryd.ntmps19
  go_wp2_with fail
  refine HQ.out.mono ?_
  rintro e w1 ⟨rfl, hb1⟩
  cases ok
  · have HR := Lib.hid (HR1.out rfl)
    go_wp2
    go_ret
    exact dstr HR.out hb1
  · have HR := Lib.hid (HR2.out rfl)
    have HT2 := Lib.hid (HT.out w1 (HV.out.below hb1) rfl)
    clear HT HR1 HR2
    go_wp2_with fail
    refine HT2.out.mono ?_
    rintro e w2 ⟨rfl, hb2⟩
    go_wp2
    go_ret
    exact dstr HR.out (bthen hb1 hb2)
end Go.Proofs.YtnhdoppabfmonaaDoor
