import Derived.Test.YtclffohjpbmnbaaGreatDoorMg33
import Derived.Test.YtclffohjpbmnbaaGreatDoorMg34
import Derived.Test.YtclffohjpbmnbaaGreatDoorMg31
import Derived.Test.YtclffohjpbmnbaaGreatDoorMg7
import Derived.Deep.RegionHeld3
import Derived.Test.YtclffohjpbmnbaaGreatDoorMg32
/- AttTx: the text of attempts, by both packages. -/
namespace Go.Proofs.YtclffohjpbmnbaaGreatDoor
open Go.ChangeShapes Go.WideShapes Go.ChangeAt Go.RowKit

def attHead (x : Att) : List Int := x.pattern.map hexV ++ (32 :: chars (decB x.catches))
def attTail (x : Att) : List Int := (if x.dropped then [32, 100, 114, 111, 112] else []) ++ [10]
def attLine (x : Att) : List Int := attHead x ++ attTail x
def attsCh (l : List Att) : List Int := l.flatMap attLine
def attsTextB (l : List Att) : ByteArray := if okAtts l then strOfNums (attsCh l) else ByteArray.empty
theorem abelow_of_drew {w w' : World} (h : Below w.drew.heap.size w.drew w') : Below w.heap.size w w' := ((Below.refl w.heap.size w).drew).trans h
theorem attHead_len {l : List Att} {k : Nat} (h : okAtts l = true) (hk : k < l.length) : (attHead (nth l k)).length ≤ 33 := by
  obtain ⟨h1, h2, h3⟩ := (okAtts_nth h).1 k hk
  have h4 := (throwsB_nth (okPat_throws h1)).2.2
  have h5 := decB_size (nth l k).catches (by omega) (by omega)
  unfold attHead
  simp only [List.length_append, List.length_cons, List.length_map, chars_len]
  omega
theorem attLine_len {l : List Att} {k : Nat} (h : okAtts l = true) (hk : k < l.length) : (attLine (nth l k)).length ≤ 39 := by
  have := attHead_len h hk
  unfold attLine attTail
  rw [List.length_append, List.length_append]
  split <;> simp <;> omega
theorem attsCh_step (l : List Att) (k : Nat) (hk : k < l.length) : attsCh (l.take (k + 1)) = attsCh (l.take k) ++ attLine (nth l k) := by
  unfold attsCh; rw [take_nth l k hk, List.flatMap_append]; simp
theorem attsCh_len {l : List Att} (h : okAtts l = true) : ∀ k, k ≤ l.length → (attsCh (l.take k)).length ≤ k * 39
  | 0, _ => by simp [attsCh]
  | k + 1, hk => by
    rw [attsCh_step l k hk, List.length_append]
    have h1 := attsCh_len h k (by omega)
    have h2 := attLine_len h hk
    omega
theorem attHead_chars {x : Att} (h : okPat x.pattern = true) : chars (strOfNums (x.pattern.map hexV) ++ (⟨#[32]⟩ : ByteArray) ++ decB x.catches) = attHead x := by
  have e1 : chars (⟨#[32]⟩ : ByteArray) = [32] := rfl
  unfold attHead
  rw [chars_append, chars_append, e1, chars_strOf (hex_bytes (okPat_mem h))]
  simp
theorem attTail_yes {x : Att} (h : x.dropped = true) : attTail x = chars (⟨#[32, 100, 114, 111, 112]⟩ : ByteArray) ++ [10] := by unfold attTail; rw [h]; rfl
theorem attTail_no {x : Att} (h : x.dropped = false) : attTail x = [10] := by unfold attTail; rw [h]; rfl
set_option maxHeartbeats 2000000 in
theorem iAttemptsText_c (v : Value) (l : List Att) (w : World) (hv : AttsAt w v l) (ht : TabW w) : Calls Tryz.prog 31 #[v] w (Gives (.string (attsTextB l)) w) := by
  have HQ := Lib.hid (iValidAttempts_c v l w hv)
  obtain ⟨a, n, cap, rfl, hn, hl, hm, hc⟩ := hv
  have Hc := Lib.hid hc; clear hc
  have HTab := Lib.hid ht; clear ht
  cases hE : okAtts l
  · have HR : Hid (attsTextB l = ByteArray.empty) := Lib.hid (by unfold attsTextB; rw [hE]; rfl)
    rw [hE] at HQ
    clear hE hn
    go_enter Tryz.func31, Tryz.ntmps31
    go_wp2_with fail
    refine HQ.out.mono ?_
    rintro e w1 ⟨rfl, hb1⟩
    go_wp2
    go_ret
    exact dstr HR.out hb1
  · have HR : Hid (attsTextB l = strOfNums (attsCh l)) := Lib.hid (by unfold attsTextB; rw [hE]; rfl)
    have HE := Lib.hid hE
    have hn100 : n ≤ 100 := by rw [hn]; exact (okAtts_nth hE).2
    have Hn := Lib.hid hn
    rw [hE] at HQ
    clear hE hn
    go_enter Tryz.func31, Tryz.ntmps31
    go_wp2_with fail
    refine HQ.out.mono ?_
    rintro e w1 ⟨rfl, hb1⟩
    clear HQ
    go_wp2
    go_loopw [3, 11] (fun s i wr => ∃ (k : Nat) (t : ByteArray), i = .int .i64 k ∧ k ≤ n ∧ s = .string t ∧ Hid (t = strOfNums (attsCh (l.take k))) ∧ Below w.heap.size w wr) (fun _ i _ => n - (intOf i).toNat)
    case atStart => exact ⟨0, _, rfl, Nat.zero_le _, rfl, Lib.hid rfl, hb1⟩
    case round =>
      obtain ⟨k, t, rfl, hk, rfl, HT, hb⟩ := hrel
      by_cases hlt : k < n
      · have hkl : k < l.length := by rw [← Hn.out]; exact hlt
        obtain ⟨b, o, pa, pn, pc, rfl, hbs, hp, c0, c1, c2⟩ := att_cells (Hc.out.below hb) k hkl
        have HP := Lib.hid hp; clear hp
        obtain ⟨hop, hc0, hc1⟩ := (okAtts_nth HE.out).1 k hkl
        have hts : t.size ≤ 3900 := by rw [HT.out, strOfNums_size]; have := attsCh_len HE.out k (by omega); omega
        have hps := patText_size (nth l k).pattern
        have hs2 := decB_size (nth l k).catches (by omega) (by omega)
        have HPT : Hid (patText (nth l k).pattern = strOfNums ((nth l k).pattern.map hexV)) := Lib.hid (by unfold patText; rw [if_pos hop])
        have HH : Hid (t ++ (patText (nth l k).pattern ++ (⟨#[32]⟩ : ByteArray) ++ decB (nth l k).catches) = strOfNums (attsCh (l.take k) ++ attHead (nth l k))) := Lib.hid (by
          rw [HPT.out, strOf_append, ← HT.out, ← attHead_chars hop, strOf_chars])
        have HS : Hid (attsCh (l.take (k + 1)) = (attsCh (l.take k) ++ attHead (nth l k)) ++ attTail (nth l k)) := Lib.hid (by rw [attsCh_step l k hkl, List.append_assoc]; rfl)
        have HTy := Lib.hid (fun h => attTail_yes (x := nth l k) h)
        have HTn := Lib.hid (fun h => attTail_no (x := nth l k) h)
        have HQ := Lib.hid (fun W x => patternText_c (.slice pa pn pc) (nth l k).pattern W x)
        have HD := Lib.hid (fun W x => decimal_c (nth l k).catches (by omega) (by omega) W (HTab.out.below x))
        clear hkl hop HPT hc0 hc1
        generalize attTail (nth l k) = tl at *
        generalize attHead (nth l k) = hd at *
        generalize patText (nth l k).pattern = pt at *
        generalize decB (nth l k).catches = db at *
        generalize (nth l k).catches = xc at *
        generalize (nth l k).dropped = xd at *
        have hz : (t ++ (pt ++ (⟨#[32]⟩ : ByteArray) ++ db)).size ≤ 4000 := by
          have e1 : (⟨#[32]⟩ : ByteArray).size = 1 := rfl
          simp only [ByteArray.size_append, e1]; omega
        go_wp2
        generalize hG : World.alloc wr (.cells #[.slice pa pn pc, .int .i64 xc, .bool xd] 103) = wx at *
        have hbx : Below wr.heap.size wr wx := by rw [← hG]; go_grown
        have HB : Hid (BoxIs wx wr.heap.size [.slice pa pn pc, .int .i64 xc, .bool xd]) := Lib.hid (by rw [← hG]; exact BoxIs.new _ _ _)
        clear hG c0 c1 c2
        have k0 := cell_regrown (HB.out.2.1 0)
        have k1 := cell_regrown (HB.out.2.1 1)
        have HPx := Lib.hid (HP.out.below hbx)
        have HX2 := Lib.hid (fun W (x : Below wx.heap.size wx W) => HD.out W (bthen (bthen hb hbx) x))
        clear HD
        refine wp_region_quiet_below (by kernel_rfl) (by kernel_rfl) ?_
        repeat (first | go_big_quiet_step (first | with_reducible exact Calls.regrown_of (HX2.out _ (below_regrown _ _ _)) | exact Calls.regrown_of (HQ.out _ (HPx.out.below (below_regrown _ _ _)))) | quiet_step (first | with_reducible exact Calls.regrown_of (HX2.out _ (below_regrown _ _ _)) | exact Calls.regrown_of (HQ.out _ (HPx.out.below (below_regrown _ _ _)))))
        refine wpQuiet_nil ?_
        intro _ hw'
        obtain ⟨⟨dq, osq⟩, hw''⟩ := hw'
        subst hw''
        have hbq := below_regrown wx dq osq
        generalize Go.Sort.grow (redrawn wx dq) osq = wq at *
        have e2 := (HB.out.below hbq).2.1 2
        simp only [List.getElem?_cons_succ, List.getElem?_cons_zero] at e2
        clear k0 k1
        generalize t ++ (pt ++ (⟨#[32]⟩ : ByteArray) ++ db) = t2 at *
        cases xd
        · have HF : Hid (t2 ++ (⟨#[10]⟩ : ByteArray) = strOfNums (attsCh (l.take (k + 1)))) := Lib.hid (by rw [HS.out, HTn.out rfl, strOf_append, HH.out]; rfl)
          go_wp2
          exact ⟨⟨k + 1, _, by go_num, hlt, rfl, HF, bthen hb (bthen hbx hbq)⟩, by simp [intOf]; omega⟩
        · have HF : Hid (t2 ++ (⟨#[32, 100, 114, 111, 112]⟩ : ByteArray) ++ (⟨#[10]⟩ : ByteArray) = strOfNums (attsCh (l.take (k + 1)))) := Lib.hid (by rw [HS.out, HTy.out rfl, ← List.append_assoc, strOf_append, strOf_append, strOf_chars, HH.out]; rfl)
          go_wp2
          exact ⟨⟨k + 1, _, by go_num, hlt, rfl, HF, bthen hb (bthen hbx hbq)⟩, by simp [intOf]; omega⟩
      · obtain rfl : k = n := by omega
        have HR2 : Hid (attsTextB l = t) := Lib.hid (by rw [HR.out, HT.out, List.take_of_length_le (by rw [Hn.out]; exact Nat.le_refl _)])
        go_wp2
        go_ret
        exact dstr HR2.out hb
def TxA (l : List Att) : Prop := (∀ x ∈ l, (x.pattern.length ≤ 13 ∧ ∀ y ∈ x.pattern, 0 ≤ y ∧ y ≤ 15) ∧ (0 ≤ x.catches ∧ x.catches ≤ 100000)) ∧ l.length ≤ 100
theorem attHeadS_len {x : Att} (h : (x.pattern.length ≤ 13 ∧ ∀ y ∈ x.pattern, 0 ≤ y ∧ y ≤ 15) ∧ (0 ≤ x.catches ∧ x.catches ≤ 100000)) : (attHead x).length ≤ 34 := by
  have h5 := decB_size x.catches (by omega) (by omega)
  unfold attHead
  simp only [List.length_append, List.length_cons, List.length_map, chars_len]
  omega
theorem attHeadS_chars {x : Att} (h : ∀ y ∈ x.pattern, 0 ≤ y ∧ y ≤ 15) : chars (strOfNums (x.pattern.map hexV) ++ (⟨#[32]⟩ : ByteArray) ++ decB x.catches) = attHead x := by
  have e1 : chars (⟨#[32]⟩ : ByteArray) = [32] := rfl
  unfold attHead
  rw [chars_append, chars_append, e1, chars_strOf (hex_bytes h)]
  simp
theorem attsChS_len {l : List Att} (h : TxA l) : ∀ k, k ≤ l.length → (attsCh (l.take k)).length ≤ k * 40
  | 0, _ => by simp [attsCh]
  | k + 1, hk => by
    rw [attsCh_step l k hk, List.length_append]
    have h1 := attsChS_len h k (by omega)
    have h2 := attHeadS_len (h.1 _ (mem_nth (show k < l.length from hk)))
    have h3 : (attTail (nth l k)).length ≤ 6 := by unfold attTail; rw [List.length_append]; split <;> simp
    have h4 : (attLine (nth l k)).length = (attHead (nth l k)).length + (attTail (nth l k)).length := by unfold attLine; rw [List.length_append]
    omega
theorem okAtts_tx {l : List Att} (h : okAtts l = true) : TxA l := by
  obtain ⟨h1, h2⟩ := okAtts_nth h
  refine ⟨fun x hx => ?_, h2⟩
  obtain ⟨i, hi, rfl⟩ := List.getElem_of_mem hx
  rw [← nth_eq l i hi]
  obtain ⟨a, b, c⟩ := h1 i hi
  exact ⟨⟨by have := (throwsB_nth (okPat_throws a)).2.2; omega, okPat_mem a⟩, b, c⟩
set_option maxHeartbeats 2000000 in
theorem l24TextS_c (v : Value) (l : List Att) (w : World) (hv : AttsAt w v l) (hok : TxA l) : Calls Tryz.prog 92 #[v] w (Gives (.string (strOfNums (attsCh l))) w) := by
  obtain ⟨a, n, cap, rfl, hn, hl, hm, hc⟩ := hv
  have Hc := Lib.hid hc; clear hc
  have HE := Lib.hid hok
  have hn100 : n ≤ 100 := by rw [hn]; exact hok.2
  have Hn := Lib.hid hn
  clear hn hok
  go_enter Tryz.func92, Tryz.ntmps92
  go_wp2
  go_loopw [3, 4] (fun s i wr => ∃ (k : Nat) (a' : Option Addr) (n' c' : Nat), i = .int .i64 k ∧ k ≤ n ∧ s = .slice a' n' c' ∧ Hid (OwnBytes wr w.heap.size (.slice a' n' c') (attsCh (l.take k))) ∧ Below w.heap.size w wr) (fun _ i _ => n - (intOf i).toNat)
  case atStart => exact ⟨0, _, _, _, rfl, Nat.zero_le _, rfl, Lib.hid (own_bytes_empty w), by go_grown⟩
  case round =>
    obtain ⟨k, a', n', c', rfl, hk, rfl, HO, hb⟩ := hrel
    by_cases hlt : k < n
    · have hkl : k < l.length := by rw [← Hn.out]; exact hlt
      obtain ⟨b, o, pa, pn, pc, rfl, hbs, hp, c0, c1, c2⟩ := att_cells Hc.out k hkl
      have HP := Lib.hid hp; clear hp
      obtain ⟨⟨hop1, hop⟩, hc0, hc1⟩ := HE.out.1 _ (mem_nth hkl)
      have hcl := attsChS_len HE.out k (by omega)
      have hs2 := decB_size (nth l k).catches (by omega) (by omega)
      have hps : (strOfNums ((nth l k).pattern.map hexV)).size ≤ 13 := by rw [strOfNums_size, List.length_map]; exact hop1
      have HI : Hid (chars (strOfNums ((nth l k).pattern.map hexV) ++ (⟨#[32]⟩ : ByteArray) ++ decB (nth l k).catches) = attHead (nth l k)) := Lib.hid (attHeadS_chars hop)
      have hA : (strOfNums ((nth l k).pattern.map hexV) ++ (⟨#[32]⟩ : ByteArray) ++ decB (nth l k).catches).size ≤ 34 := by rw [← chars_len, HI.out]; exact attHeadS_len (HE.out.1 _ (mem_nth hkl))
      have hAl : (attHead (nth l k)).length ≤ 34 := attHeadS_len (HE.out.1 _ (mem_nth hkl))
      have HS : Hid (attsCh (l.take (k + 1)) = (attsCh (l.take k) ++ attHead (nth l k)) ++ attTail (nth l k)) := Lib.hid (by rw [attsCh_step l k hkl, List.append_assoc]; rfl)
      have HTy := Lib.hid (fun h => attTail_yes (x := nth l k) h)
      have HTn := Lib.hid (fun h => attTail_no (x := nth l k) h)
      have HQ := Lib.hid (fun W x => l02Text_c (.slice pa pn pc) (nth l k).pattern W x hop (by omega))
      have HD := Lib.hid (fun W => l01Dec_c (nth l k).catches (by omega) (by omega) W)
      clear hkl hop hop1 hc0 hc1
      generalize attTail (nth l k) = tl at *
      generalize attHead (nth l k) = hdl at *
      generalize strOfNums ((nth l k).pattern.map hexV) = pt at *
      generalize decB (nth l k).catches = db at *
      generalize (nth l k).catches = xc at *
      generalize (nth l k).dropped = xd at *
      have hq1 : ¬ 9223372036854775807 < pt.size + 1 := by omega
      have hq2 : ¬ 9223372036854775807 < pt.size + 1 + db.size := by omega
      go_wp2
      refine wp_region_held_drew (S := fun w' => Below w.heap.size w w') (by kernel_rfl) (by exact (hb).drew) (fun hHeld => ?_)
      refine wpAnyH_take (i := 0) (oi := ⟨_, _, _, _, _, _⟩) (v := ?_) rfl (by kernel_rfl) (by kernel_rfl) (by kernel_rfl) (fun _ _ _ h => h) (Or.inl ⟨by rfl, ?_⟩) (by assumption) ?_; rotate_left; (focus (intro w hSw; (try dsimp only at hSw); go_simp; try with_reducible rfl)); (try simp only [Act.put, List.setIfInBounds_toArray, List.set_cons_zero, List.set_cons_succ])
      refine wpAnyH_take (i := 1) (oi := ⟨_, _, _, _, _, _⟩) (v := ?_) rfl (by kernel_rfl) (by kernel_rfl) (by kernel_rfl) (fun _ _ _ h => h) (Or.inl ⟨by rfl, ?_⟩) (by assumption) ?_; rotate_left; (focus (intro w hSw; (try dsimp only at hSw); go_simp; try with_reducible rfl)); (try simp only [Act.put, List.setIfInBounds_toArray, List.set_cons_zero, List.set_cons_succ])
      refine wpAnyH_take (i := 2) (oi := ⟨_, _, _, _, _, _⟩) (v := ?_) rfl (by kernel_rfl) (by kernel_rfl) (by kernel_rfl) (fun _ _ _ h => h) (Or.inl ⟨by rfl, ?_⟩) (by assumption) ?_; rotate_left; (focus (intro w hSw; (try dsimp only at hSw); go_simp; try with_reducible rfl)); (try simp only [Act.put, List.setIfInBounds_toArray, List.set_cons_zero, List.set_cons_succ])
      refine wpAnyH_take (i := 3) (oi := ⟨_, _, _, _, _, _⟩) (v := ?_) rfl (by kernel_rfl) (by kernel_rfl) (by kernel_rfl) (fun _ _ _ h => h) (Or.inl ⟨by rfl, ?_⟩) (by assumption) ?_; rotate_left; (focus (intro w hSw; (try dsimp only at hSw); go_simp; try with_reducible rfl)); (try simp only [Act.put, List.setIfInBounds_toArray, List.set_cons_zero, List.set_cons_succ])
      refine wpAnyH_take (i := 4) (oi := ⟨_, _, _, _, _, _⟩) (v := ?_) rfl (by kernel_rfl) (by kernel_rfl) (by kernel_rfl) (fun _ _ _ h => h) (Or.inl ⟨by rfl, ?_⟩) (by assumption) ?_; rotate_left; (focus (intro w hSw; (try dsimp only at hSw); go_simp; try with_reducible rfl)); (try simp only [Act.put, List.setIfInBounds_toArray, List.set_cons_zero, List.set_cons_succ])
      refine wpAnyH_take (i := 5) (oi := ⟨_, _, _, _, _, _⟩) (v := ?_) rfl (by kernel_rfl) (by kernel_rfl) (by kernel_rfl) (fun _ _ _ h => h) (Or.inl ⟨by rfl, ?_⟩) (by assumption) ?_; rotate_left; (focus (intro w hSw; (try dsimp only at hSw); have t0 := cell_then hbs c0 hSw; have t1 := cell_then hbs c1 hSw; go_simp; try with_reducible rfl)); (try simp only [Act.put, List.setIfInBounds_toArray, List.set_cons_zero, List.set_cons_succ])
      refine wpAnyH_take (i := 8) (oi := ⟨_, _, _, _, _, _⟩) (v := ?_) rfl (by kernel_rfl) (by kernel_rfl) (by kernel_rfl) (fun _ _ _ h => h) (Or.inl ⟨by rfl, ?_⟩) (by assumption) ?_; rotate_left; (focus (intro w hSw; (try dsimp only at hSw); go_simp; try with_reducible rfl)); (try simp only [Act.put, List.setIfInBounds_toArray, List.set_cons_zero, List.set_cons_succ])
      refine wpAnyH_take (i := 9) (oi := ⟨_, _, _, _, _, _⟩) (v := ?_) rfl (by kernel_rfl) (by kernel_rfl) (by kernel_rfl) (fun _ _ _ h => h) (Or.inl ⟨by rfl, ?_⟩) (by assumption) ?_; rotate_left; (focus (intro w hSw; (try dsimp only at hSw); go_simp; try with_reducible rfl)); (try simp only [Act.put, List.setIfInBounds_toArray, List.set_cons_zero, List.set_cons_succ])
      refine wpAnyH_take (i := 10) (oi := ⟨_, _, _, _, _, _⟩) (v := ?_) rfl (by kernel_rfl) (by kernel_rfl) (by kernel_rfl) (fun _ _ _ h => h) (Or.inl ⟨by rfl, ?_⟩) (by assumption) ?_; rotate_left; (focus (intro w hSw; (try dsimp only at hSw); go_simp; try with_reducible rfl)); (try simp only [Act.put, List.setIfInBounds_toArray, List.set_cons_zero, List.set_cons_succ])
      refine wpAnyH_take (i := 11) (oi := ⟨_, _, _, _, _, _⟩) (v := ?_) rfl (by kernel_rfl) (by kernel_rfl) (by kernel_rfl) (fun _ _ _ h => h) (Or.inl ⟨by rfl, ?_⟩) (by assumption) ?_; rotate_left; (focus (intro w hSw; (try dsimp only at hSw); go_simp; try with_reducible rfl)); (try simp only [Act.put, List.setIfInBounds_toArray, List.set_cons_zero, List.set_cons_succ])
      refine wpAnyH_take (i := 12) (oi := ⟨_, _, _, _, _, _⟩) (v := ?_) rfl (by kernel_rfl) (by kernel_rfl) (by kernel_rfl) (fun _ _ _ h => h) (Or.inl ⟨by rfl, ?_⟩) (by assumption) ?_; rotate_left; (focus (intro w hSw; (try dsimp only at hSw); have t0 := cell_then hbs c0 hSw; have t1 := cell_then hbs c1 hSw; go_simp; try with_reducible rfl)); (try simp only [Act.put, List.setIfInBounds_toArray, List.set_cons_zero, List.set_cons_succ])
      refine wpAnyH_ready (rs := [6]) (by kernel_rfl) (by simp) ?_
      refine AllReadyH.cons (o := ⟨_, _, _, _, _, _⟩) rfl (fun K hK => ?_) AllReadyH.nil
      go_simp
      go_at_call 126; (with_reducible refine (HQ.out _ (HP.out.below hHeld)).mono ?_); rintro e x1 ⟨rfl, d1⟩; have hS' := bthen hHeld d1; first | (have hd2 := bthen hd1 d1; clear hd1; have hd1 := hd2; clear hd2) | (have hd1 := abelow_of_drew d1)
      refine hK.out _ _ (by exact hS') (fun hHeld' => ?_)
      clear hHeld hK K
      have hHeld := hHeld'
      clear hHeld'
      try simp only [Act.put, List.setIfInBounds_toArray, List.set_cons_zero, List.set_cons_succ]
      refine wpAnyH_take (i := 7) (oi := ⟨_, _, _, _, _, _⟩) (v := ?_) rfl (by kernel_rfl) (by kernel_rfl) (by kernel_rfl) (fun _ _ _ h => h) (Or.inl ⟨by rfl, ?_⟩) (by assumption) ?_; rotate_left; (focus (intro w hSw; (try dsimp only at hSw); go_simp; try with_reducible rfl)); (try simp only [Act.put, List.setIfInBounds_toArray, List.set_cons_zero, List.set_cons_succ])
      refine wpAnyH_ready (rs := [13]) (by kernel_rfl) (by simp) ?_
      refine AllReadyH.cons (o := ⟨_, _, _, _, _, _⟩) rfl (fun K hK => ?_) AllReadyH.nil
      go_simp
      go_at_call 124; (with_reducible refine (HD.out _).mono ?_); rintro e x1 ⟨rfl, d1⟩; have hS' := bthen hHeld d1; first | (have hd2 := bthen hd1 d1; clear hd1; have hd1 := hd2; clear hd2) | (have hd1 := abelow_of_drew d1)
      refine hK.out _ _ (by exact hS') (fun hHeld' => ?_)
      clear hHeld hK K
      have hHeld := hHeld'
      clear hHeld'
      try simp only [Act.put, List.setIfInBounds_toArray, List.set_cons_zero, List.set_cons_succ]
      refine wpAnyH_take (i := 14) (oi := ⟨_, _, _, _, _, _⟩) (v := ?_) rfl (by kernel_rfl) (by kernel_rfl) (by kernel_rfl) (fun _ _ _ h => h) (Or.inl ⟨by rfl, ?_⟩) (by assumption) ?_; rotate_left; (focus (intro w hSw; (try dsimp only at hSw); go_simp; try with_reducible rfl)); (try simp only [Act.put, List.setIfInBounds_toArray, List.set_cons_zero, List.set_cons_succ])
      refine wpAnyH_ready (rs := [15]) (by kernel_rfl) (by simp) ?_
      refine AllReadyH.cons (o := ⟨_, _, _, _, _, _⟩) rfl (fun K hK => ?_) AllReadyH.nil
      refine step_app_text rfl _ _ rfl w.heap.size _ _ rfl (own_below HO.out hd1) _ rfl (by omega) hHeld.size ?_; intro a6 n6 c6 w6 ho6 hg6; have hS' := hHeld.grown hg6 hHeld.size (fun g hg => (World.ownsRow.lt HO.out g hg).1)
      refine hK.out _ _ (by exact hS') (fun hHeld' => ?_)
      clear hHeld hK K
      have hHeld := hHeld'
      clear hHeld'
      try simp only [Act.put, List.setIfInBounds_toArray, List.set_cons_zero, List.set_cons_succ]
      refine wpAnyH_take (i := 16) (oi := ⟨_, _, _, _, _, _⟩) (v := ?_) rfl (by kernel_rfl) (by kernel_rfl) (by kernel_rfl) (fun _ _ _ h => h) (Or.inl ⟨by rfl, ?_⟩) (by assumption) ?_; rotate_left; (focus (intro w hSw; (try dsimp only at hSw); go_simp; try with_reducible rfl)); (try simp only [Act.put, List.setIfInBounds_toArray, List.set_cons_zero, List.set_cons_succ])
      refine wpAnyH_done (by kernel_rfl) ?_ _
      have HO6 : Hid (OwnBytes w6 w.heap.size (.slice a6 n6 c6) (attsCh (l.take k) ++ hdl)) := Lib.hid (by rw [← HI.out]; exact ho6)
      clear ho6 hg6
      have c2' := cell_then hbs c2 hHeld
      have hs6 := hHeld.size
      cases xd
      · have HTl := Lib.hid (HTn.out rfl)
        clear HTy HTn
        go_wp2_with (at_builtin; refine wpList_app_bytes rfl _ _ rfl w.heap.size _ _ rfl (HO6.out.alloc _) _ _ _ [10] rfl rfl (bytes_new _ _ _) (by rw [List.length_append]; simp only [List.length_cons, List.length_nil]; omega) (by simp; omega) ?_)
        intro a7 n7 c7 w7 ho7 hg7 _ _
        have hb7 : Below w.heap.size w w7 := (hHeld.alloc hs6 _).grown hg7 (by simp; omega) (fun g hg => (World.ownsRow.lt HO6.out g hg).1)
        have HO7 : Hid (OwnBytes w7 w.heap.size (.slice a7 n7 c7) (attsCh (l.take (k + 1)))) := Lib.hid (by rw [HS.out, HTl.out]; simpa [List.append_assoc] using ho7)
        clear ho7 hg7 HO6
        go_wp2
        exact ⟨⟨k + 1, a7, n7, c7, by go_num, hlt, rfl, HO7, hb7⟩, by simp [intOf]; omega⟩
      · have HTl := Lib.hid (HTy.out rfl)
        clear HTy HTn
        go_wp2_with (at_builtin; refine wpList_app_text rfl _ _ rfl w.heap.size _ _ rfl HO6.out ⟨#[32, 100, 114, 111, 112]⟩ rfl (by rw [List.length_append]; have e5 : (⟨#[32, 100, 114, 111, 112]⟩ : ByteArray).size = 5 := rfl; omega) hs6 ?_)
        intro a8 n8 c8 w8 ho8 hg8
        have hb8 : Below w.heap.size w w8 := hHeld.grown hg8 hs6 (fun g hg => (World.ownsRow.lt HO6.out g hg).1)
        have hs8 := hb8.size
        have HO8 := Lib.hid ho8
        clear ho8 hg8 HO6
        go_wp2_with (at_builtin; refine wpList_app_bytes rfl _ _ rfl w.heap.size _ _ rfl (HO8.out.alloc _) _ _ _ [10] rfl rfl (bytes_new _ _ _) (by rw [List.length_append, List.length_append, chars_len]; have e5 : (⟨#[32, 100, 114, 111, 112]⟩ : ByteArray).size = 5 := rfl; simp only [List.length_cons, List.length_nil]; omega) (by simp; omega) ?_)
        intro a7 n7 c7 w7 ho7 hg7 _ _
        have hb7 : Below w.heap.size w w7 := (hb8.alloc hs8 _).grown hg7 (by simp; omega) (fun g hg => (World.ownsRow.lt HO8.out g hg).1)
        have HO7 : Hid (OwnBytes w7 w.heap.size (.slice a7 n7 c7) (attsCh (l.take (k + 1)))) := Lib.hid (by rw [HS.out, HTl.out]; simpa [List.append_assoc] using ho7)
        clear ho7 hg7 HO8
        go_wp2
        exact ⟨⟨k + 1, a7, n7, c7, by go_num, hlt, rfl, HO7, hb7⟩, by simp [intOf]; omega⟩
    · obtain rfl : k = n := by omega
      have hcv := own_bytes_text HO.out
      have HR : Hid (strOfNums (attsCh l) = strOfNums (attsCh (l.take k))) := Lib.hid (by rw [List.take_of_length_le (by rw [Hn.out]; exact Nat.le_refl _)])
      have hcv2 := hcv 9 Tryz.underlying9
      go_wp2
      go_ret
      exact dstr HR.out hb
theorem l24Text_c (v : Value) (l : List Att) (w : World) (hv : AttsAt w v l) (hok : okAtts l = true) : Calls Tryz.prog 92 #[v] w (Gives (.string (strOfNums (attsCh l))) w) := l24TextS_c v l w hv (okAtts_tx hok)
theorem sAttemptsText_c (v : Value) (l : List Att) (w : World) (hv : AttsAt w v l) : Calls Tryz.prog 37 #[v] w (Gives (.string (attsTextB l)) w) := by
  have HV := Lib.hid hv
  have HQ := Lib.hid (l24Ok_c v l w hv)
  have HT := Lib.hid (fun W x h => l24Text_c v l W x h)
  have HR1 : Hid (okAtts l = false → attsTextB l = ByteArray.empty) := Lib.hid (fun h => by unfold attsTextB; rw [h]; rfl)
  have HR2 : Hid (okAtts l = true → attsTextB l = strOfNums (attsCh l)) := Lib.hid (fun h => by unfold attsTextB; rw [h]; rfl)
  clear hv
  generalize okAtts l = ok at *
  go_enter Tryz.func37, Tryz.ntmps37
  go_wp2_with fail
  refine HQ.out.mono ?_
  rintro e w1 ⟨rfl, hb1⟩
  cases ok
  · have HR := Lib.hid (HR1.out rfl)
    go_wp2
    go_ret
    exact dstr HR.out hb1
  · have HR := Lib.hid (HR2.out rfl)
    have HT2 := Lib.hid (HT.out w1 (HV.out.below hb1) rfl)
    clear HT HR1 HR2
    go_wp2_with fail
    refine HT2.out.mono ?_
    rintro e w2 ⟨rfl, hb2⟩
    go_wp2
    go_ret
    exact dstr HR.out (bthen hb1 hb2)
end Go.Proofs.YtclffohjpbmnbaaGreatDoor

/- ReadAL: plain: what the reading of attempts says. -/
namespace Go.Proofs.YtclffohjpbmnbaaGreatDoor
open Go.ChangeShapes Go.WideShapes Go.ChangeAt Go.RowKit

def dropC : List Int := [100, 114, 111, 112]
def aShape (p : List Int) : Bool := decide ((splitL 32 p).length = 2) || (decide ((splitL 32 p).length = 3) && decide (nth (splitL 32 p) 2 = dropC))
def aLineOk (p : List Int) : Bool := aShape p && (okPat ((nth (splitL 32 p) 0).map hexN) && numOk (nth (splitL 32 p) 1))
def aLineOkS (p : List Int) : Bool := aShape p && (decide ((nth (splitL 32 p) 0).length ≤ 12) && numOk (nth (splitL 32 p) 1))
def aLineAtt (p : List Int) : Att := ⟨(nth (splitL 32 p) 0).map hexN, numN (nth (splitL 32 p) 1), decide ((splitL 32 p).length = 3)⟩
def raOk (cs : List Int) : Bool := linesOk cs && ((linesL cs).all aLineOk && okAtts ((linesL cs).map aLineAtt))
def raL (cs : List Int) : List Att := if raOk cs then (linesL cs).map aLineAtt else []
theorem raOk_lines {cs : List Int} (h : linesOk cs = false) : raOk cs = false := by unfold raOk; rw [h]; rfl
theorem raOk_bad {cs : List Int} {k : Nat} (hk : k < (linesL cs).length) (h : aLineOk (nth (linesL cs) k) = false) : raOk cs = false := by
  unfold raOk
  have h2 : (linesL cs).all aLineOk = false := by
    cases ha : (linesL cs).all aLineOk
    · rfl
    · have := List.all_eq_true.1 ha _ (mem_nth hk)
      rw [h] at this; exact absurd this (by decide)
  rw [h2]; simp
theorem raOk_all {cs : List Int} (h1 : linesOk cs = true) (h2 : ∀ j, j < (linesL cs).length → aLineOk (nth (linesL cs) j) = true) : raOk cs = okAtts ((linesL cs).map aLineAtt) := by
  unfold raOk
  have h3 : (linesL cs).all aLineOk = true := by
    rw [List.all_eq_true]
    intro x hx
    obtain ⟨i, hi, rfl⟩ := List.getElem_of_mem hx
    rw [← nth_eq _ i hi]; exact h2 i hi
  rw [h1, h3]; rfl
theorem raL_no {cs : List Int} (h : raOk cs = false) : raL cs = [] := by unfold raL; rw [h]; rfl
theorem raL_yes {cs : List Int} (h : raOk cs = true) : raL cs = (linesL cs).map aLineAtt := by unfold raL; rw [h]; rfl
theorem aLine_S {p : List Int} (h : aLineOk p = true) : aLineOkS p = true := by
  unfold aLineOk at h
  simp only [Bool.and_eq_true] at h
  unfold aLineOkS
  have hl := (throwsB_nth (okPat_throws h.2.1)).2.2
  rw [List.length_map] at hl
  rw [h.1, h.2.2, decide_eq_true hl]; rfl
theorem raOk_badS {cs : List Int} {k : Nat} (hk : k < (linesL cs).length) (h : aLineOkS (nth (linesL cs) k) = false) : raOk cs = false := by
  refine raOk_bad hk ?_
  cases hl : aLineOk (nth (linesL cs) k)
  · rfl
  · rw [aLine_S hl] at h; exact absurd h (by decide)
theorem raOk_long {cs : List Int} (h : 100 < (linesL cs).length) : raOk cs = false := by
  cases hr : raOk cs
  · rfl
  · unfold raOk at hr
    simp only [Bool.and_eq_true] at hr
    have := (okAtts_nth hr.2.2).2
    rw [List.length_map] at this; omega
theorem raOk_allS {cs : List Int} (h1 : linesOk cs = true) (h2 : ∀ j, j < (linesL cs).length → aLineOkS (nth (linesL cs) j) = true) : raOk cs = okAtts ((linesL cs).map aLineAtt) := by
  cases hO : okAtts ((linesL cs).map aLineAtt)
  · unfold raOk; rw [hO]; simp
  · rw [raOk_all h1 ?_, hO]
    intro j hj
    have hj' := h2 j hj
    unfold aLineOkS at hj'
    simp only [Bool.and_eq_true] at hj'
    unfold aLineOk
    have hp := ((okAtts_nth hO).1 j (by rw [List.length_map]; exact hj)).1
    rw [nth_map _ _ _ hj] at hp
    have hp' : okPat ((nth (splitL 32 (nth (linesL cs) j)) 0).map hexN) = true := hp
    rw [hj'.1, hj'.2.2, hp']; rfl
theorem raL_len (cs : List Int) : (raL cs).length ≤ 1048576 := by
  unfold raL
  split
  · rename_i h
    unfold raOk at h
    simp only [Bool.and_eq_true] at h
    have := (okAtts_nth h.2.2).2
    omega
  · simp
theorem raL_pat (cs : List Int) : ∀ x ∈ raL cs, x.pattern.length ≤ 1048576 := by
  intro x hx
  unfold raL at hx
  split at hx
  · rename_i h
    unfold raOk at h
    simp only [Bool.and_eq_true] at h
    obtain ⟨i, hi, rfl⟩ := List.getElem_of_mem hx
    have := ((okAtts_nth h.2.2).1 i hi).1
    rw [nth_eq _ i hi] at this
    have := (throwsB_nth (okPat_throws this)).2.2
    omega
  · exact absurd hx List.not_mem_nil
end Go.Proofs.YtclffohjpbmnbaaGreatDoor

/- AttRt: plain: attempts are read back from their text. -/
namespace Go.Proofs.YtclffohjpbmnbaaGreatDoor
open Go.ChangeShapes Go.WideShapes Go.ChangeAt Go.RowKit

def attBody (x : Att) : List Int := x.pattern.map hexV ++ 32 :: (chars (decB x.catches) ++ if x.dropped then 32 :: dropC else [])
theorem attBody_line (x : Att) : attLine x = attBody x ++ [10] := by
  unfold attLine attHead attTail attBody dropC
  cases x.dropped <;> simp
theorem attBody_ok {x : Att} (hp : okPat x.pattern = true) (h2 : 0 ≤ x.catches ∧ x.catches ≤ 100000) :
    aLineOk (attBody x) = true ∧ aLineAtt (attBody x) = x ∧ ∀ y ∈ attBody x, y ≠ 10 := by
  obtain ⟨-, -, b3, -⟩ := dec_chars (n := x.catches) (by omega) (by omega)
  have b := num_dec (n := x.catches) (by omega) (by omega)
  have hm := hexs_mem (okPat_mem hp)
  have hb := hexs_back (okPat_mem hp)
  have hd : ∀ y ∈ dropC, y ≠ 32 ∧ y ≠ 10 := by unfold dropC; intro y hy; simp at hy; omega
  obtain ⟨P, n, d⟩ := x
  dsimp only at *
  have hs : splitL 32 (attBody ⟨P, n, d⟩) = [P.map hexV, chars (decB n)] ++ (if d then [dropC] else []) := by
    unfold attBody
    dsimp only
    rw [split_app 32 _ _ (fun x hx => (hm x hx).1)]
    cases d
    · show _ :: splitL 32 (chars (decB n) ++ []) = _
      rw [List.append_nil, split_one 32 _ (fun x hx => by have := b3 x hx; omega)]; rfl
    · show _ :: splitL 32 (chars (decB n) ++ 32 :: dropC) = _
      rw [split_app 32 _ _ (fun x hx => by have := b3 x hx; omega), split_one 32 _ (fun x hx => (hd x hx).1)]; rfl
  have h0 : nth (splitL 32 (attBody ⟨P, n, d⟩)) 0 = P.map hexV := by rw [hs]; rfl
  have h1 : nth (splitL 32 (attBody ⟨P, n, d⟩)) 1 = chars (decB n) := by rw [hs]; rfl
  refine ⟨?_, ?_, ?_⟩
  · unfold aLineOk
    rw [h0, h1, hb, hp, b.1]
    unfold aShape
    rw [hs]
    cases d <;> rfl
  · unfold aLineAtt
    rw [h0, h1, hb, b.2, hs]
    cases d <;> rfl
  · intro y hy
    unfold attBody at hy
    rcases List.mem_append.1 hy with hy | hy
    · exact (hm y hy).2
    · rcases List.mem_cons.1 hy with rfl | hy
      · omega
      · rcases List.mem_append.1 hy with hy | hy
        · have := b3 y hy; omega
        · cases d
          · exact absurd hy List.not_mem_nil
          · rcases List.mem_cons.1 hy with rfl | hy
            · omega
            · exact (hd y hy).2
theorem atts_rt {l : List Att} (h : okAtts l = true) : raOk (attsCh l) = true ∧ raL (attsCh l) = l := by
  have hall : ∀ x ∈ l, okPat x.pattern = true ∧ 0 ≤ x.catches ∧ x.catches ≤ 100000 := by
    intro x hx
    obtain ⟨i, hi, rfl⟩ := List.getElem_of_mem hx
    rw [← nth_eq l i hi]; exact (okAtts_nth h).1 i hi
  have e : attsCh l = (l.map attBody).flatMap (fun p => p ++ [10]) := by
    unfold attsCh
    rw [List.flatMap_map]
    congr 1
    funext c
    exact attBody_line c
  have hl := lines_of (L := l.map attBody) (by
    intro p hp
    obtain ⟨c, hc, rfl⟩ := List.mem_map.1 hp
    have := hall c hc
    exact (attBody_ok this.1 this.2).2.2)
  have hb : ((l.map attBody).map aLineAtt) = l := map_back _ _ _ (fun c hc => by
    have := hall c hc
    exact (attBody_ok this.1 this.2).2.1)
  have hr : raOk (attsCh l) = true := by
    unfold raOk
    rw [e, hl.1, hl.2, hb, h]
    have : (l.map attBody).all aLineOk = true := by
      rw [List.all_eq_true]
      intro p hp
      obtain ⟨c, hc, rfl⟩ := List.mem_map.1 hp
      have := hall c hc
      exact (attBody_ok this.1 this.2).1
    rw [this]; rfl
  refine ⟨hr, ?_⟩
  rw [raL_yes hr, e, hl.2, hb]
end Go.Proofs.YtclffohjpbmnbaaGreatDoor
