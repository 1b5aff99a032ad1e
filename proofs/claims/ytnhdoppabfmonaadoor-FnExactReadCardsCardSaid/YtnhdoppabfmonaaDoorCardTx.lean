/- CardTx: the text of a plan, by both packages. -/
import Derived.Test.YtnhdoppabfmonaaDoorDec
import Derived.Test.YtnhdoppabfmonaaDoorBytesT
import Derived.Test.YtnhdoppabfmonaaDoorCardFn
import Derived.Test.YtnhdoppabfmonaaDoorCardWork
namespace Go.Proofs.YtnhdoppabfmonaaDoor
open Go.ChangeShapes Go.WideShapes Go.ChangeAt Go.RowKit

theorem dbelow_of_drew {w w' : World} (h : Below w.drew.heap.size w.drew w') : Below w.heap.size w w' := ((Below.refl w.heap.size w).drew).trans h
def cardLine (c : Card) : List Int := chars c.name ++ (32 :: (chars (decB c.level) ++ (32 :: (chars (decB c.due) ++ [10]))))
def cardsCh (l : List Card) : List Int := l.flatMap cardLine
def cardsTextB (l : List Card) : ByteArray := if okCards l then strOfNums (cardsCh l) else ByteArray.empty
theorem nameB_size' {s : ByteArray} (h : nameB (chars s) = true) : s.size ≤ 12 := by
  rw [← chars_len]
  cases hc : chars s with
  | nil => simp
  | cons c l =>
    rw [hc] at h
    simp only [nameB, Bool.and_eq_true, decide_eq_true_eq] at h
    simp; omega
theorem okCardsF_name : ∀ (l : List Card) (p : Option Card), okCardsF p l = true → ∀ c ∈ l, nameB (chars c.name) = true
  | [], _, _, c, hc => absurd hc List.not_mem_nil
  | x :: l, p, h, c, hc => by
    simp only [okCardsF, Bool.and_eq_true] at h
    rcases List.mem_cons.1 hc with rfl | hc
    · exact h.1.1
    · exact okCardsF_name l _ h.2 c hc
theorem okCards_name {l : List Card} (h : okCards l = true) (k : Nat) (hk : k < l.length) : (nth l k).name.size ≤ 12 := by
  unfold okCards at h
  rw [Bool.and_eq_true] at h
  exact nameB_size' (okCardsF_name l _ h.1 _ (mem_nth hk))
theorem cardLine_len {l : List Card} {k : Nat} (h : okCards l = true) (hk : k < l.length) : (cardLine (nth l k)).length ≤ 60 := by
  have h1 := okCards_name h k hk
  have h2 := okCards_in h k hk
  have h3 := decB_size (nth l k).level (by omega) (by omega)
  have h4 := decB_size (nth l k).due (by omega) (by omega)
  unfold cardLine
  simp only [List.length_append, List.length_cons, chars_len, List.length_nil]
  omega
theorem cardsCh_step (l : List Card) (k : Nat) (hk : k < l.length) : cardsCh (l.take (k + 1)) = cardsCh (l.take k) ++ cardLine (nth l k) := by
  unfold cardsCh; rw [take_nth l k hk, List.flatMap_append]; simp
theorem cardsCh_len {l : List Card} (h : okCards l = true) : ∀ k, k ≤ l.length → (cardsCh (l.take k)).length ≤ k * 60
  | 0, _ => by simp [cardsCh]
  | k + 1, hk => by
    rw [cardsCh_step l k hk, List.length_append]
    have h1 := cardsCh_len h k (by omega)
    have h2 := cardLine_len h hk
    omega
theorem cardLine_chars (c : Card) : chars (c.name ++ (⟨#[32]⟩ : ByteArray) ++ decB c.level ++ (⟨#[32]⟩ : ByteArray) ++ decB c.due ++ (⟨#[10]⟩ : ByteArray)) = cardLine c := by
  have e1 : chars (⟨#[32]⟩ : ByteArray) = [32] := rfl
  have e2 : chars (⟨#[10]⟩ : ByteArray) = [10] := rfl
  unfold cardLine
  simp only [chars_append, e1, e2]
  simp
theorem cardLine_str (c : Card) : c.name ++ (⟨#[32]⟩ : ByteArray) ++ decB c.level ++ (⟨#[32]⟩ : ByteArray) ++ decB c.due ++ (⟨#[10]⟩ : ByteArray) = strOfNums (cardLine c) := by
  rw [← cardLine_chars, strOf_chars]
set_option maxHeartbeats 2000000 in
theorem iCardsText_c (v : Value) (l : List Card) (w : World) (hv : CardsAt w v l) (ht : TabW w) : Calls Tryd.prog 12 #[v] w (Gives (.string (cardsTextB l)) w) := by
  have HQ := Lib.hid (iValidCards_c v l w hv)
  obtain ⟨a, n, cap, rfl, hn, hl, hm, hc⟩ := hv
  have Hc := Lib.hid hc; clear hc
  have HTab := Lib.hid ht; clear ht
  cases hE : okCards l
  · have HR : Hid (cardsTextB l = ByteArray.empty) := Lib.hid (by unfold cardsTextB; rw [hE]; rfl)
    rw [hE] at HQ
    clear hE hn
    go_enter Tryd.func12, Tryd.ntmps12
    go_wp2_with fail
    refine HQ.out.mono ?_
    rintro e w1 ⟨rfl, hb1⟩
    go_wp2
    go_ret
    exact dstr HR.out hb1
  · have HR : Hid (cardsTextB l = strOfNums (cardsCh l)) := Lib.hid (by unfold cardsTextB; rw [hE]; rfl)
    have HE := Lib.hid hE
    have hn40 : n ≤ 40 := by rw [hn]; exact okCards_len hE
    have Hn := Lib.hid hn
    rw [hE] at HQ
    clear hE hn
    go_enter Tryd.func12, Tryd.ntmps12
    go_wp2_with fail
    refine HQ.out.mono ?_
    rintro e w1 ⟨rfl, hb1⟩
    clear HQ
    go_wp2
    go_loopw [3, 11] (fun s i wr => ∃ (k : Nat) (t : ByteArray), i = .int .i64 k ∧ k ≤ n ∧ s = .string t ∧ Hid (t = strOfNums (cardsCh (l.take k))) ∧ Below w.heap.size w wr) (fun _ i _ => n - (intOf i).toNat)
    case atStart => exact ⟨0, _, rfl, Nat.zero_le _, rfl, Lib.hid rfl, hb1⟩
    case round =>
      obtain ⟨k, t, rfl, hk, rfl, HT, hb⟩ := hrel
      by_cases hlt : k < n
      · have hkl : k < l.length := by rw [← Hn.out]; exact hlt
        obtain ⟨b, o, rfl, hbs, hsz, c0, c1, c2⟩ := (Hc.out.below hb) k hkl
        have hon := okCards_name HE.out k hkl
        have hin := okCards_in HE.out k hkl
        have hts : t.size ≤ 2400 := by rw [HT.out, strOfNums_size]; have := cardsCh_len HE.out k (by omega); omega
        have hs1 := decB_size (nth l k).level (by omega) (by omega)
        have hs2 := decB_size (nth l k).due (by omega) (by omega)
        have HT2 : Hid (t ++ ((nth l k).name ++ (⟨#[32]⟩ : ByteArray) ++ decB (nth l k).level ++ (⟨#[32]⟩ : ByteArray) ++ decB (nth l k).due ++ (⟨#[10]⟩ : ByteArray)) = strOfNums (cardsCh (l.take (k + 1)))) := Lib.hid (by rw [cardLine_str, HT.out, ← strOf_append, cardsCh_step l k hkl])
        have HD1 := Lib.hid (fun W x => decimal_c (nth l k).level (by omega) (by omega) W (HTab.out.below x))
        have HD2 := Lib.hid (fun W x => decimal_c (nth l k).due (by omega) (by omega) W (HTab.out.below x))
        clear hkl HT hin hsz
        generalize (nth l k).name = xn at *
        generalize decB (nth l k).level = da at *
        generalize decB (nth l k).due = db at *
        generalize (nth l k).level = xl at *
        generalize (nth l k).due = xd at *
        go_wp2
        generalize hG : World.alloc wr (.cells #[.string xn, .int .i64 xl, .int .i64 xd] 59) = wx at *
        have hbx : Below wr.heap.size wr wx := by rw [← hG]; go_grown
        have HB : Hid (BoxIs wx wr.heap.size [.string xn, .int .i64 xl, .int .i64 xd]) := Lib.hid (by rw [← hG]; exact BoxIs.new _ _ _)
        clear hG c0 c1 c2
        have k0 := cell_regrown (HB.out.2.1 0)
        have k1 := cell_regrown (HB.out.2.1 1)
        have k2 := cell_regrown (HB.out.2.1 2)
        have HX1 := Lib.hid (fun W (x : Below wx.heap.size wx W) => HD1.out W (bthen (bthen hb hbx) x))
        have HX2 := Lib.hid (fun W (x : Below wx.heap.size wx W) => HD2.out W (bthen (bthen hb hbx) x))
        clear HD1 HD2
        refine wp_region_quiet_below (by kernel_rfl) (by kernel_rfl) ?_
        repeat (first | go_big_quiet_step (first | with_reducible exact Calls.regrown_of (HX1.out _ (below_regrown _ _ _)) | with_reducible exact Calls.regrown_of (HX2.out _ (below_regrown _ _ _))) | quiet_step (first | with_reducible exact Calls.regrown_of (HX1.out _ (below_regrown _ _ _)) | with_reducible exact Calls.regrown_of (HX2.out _ (below_regrown _ _ _))))
        refine wpQuiet_nil ?_
        intro _ hw'
        obtain ⟨⟨dq, osq⟩, hw''⟩ := hw'
        subst hw''
        have hbq := below_regrown wx dq osq
        generalize Go.Sort.grow (redrawn wx dq) osq = wq at *
        go_wp2
        exact ⟨⟨k + 1, _, by go_num, hlt, rfl, HT2, bthen hb (bthen hbx hbq)⟩, by simp [intOf]; omega⟩
      · obtain rfl : k = n := by omega
        have HR2 : Hid (cardsTextB l = t) := Lib.hid (by rw [HR.out, HT.out, List.take_of_length_le (by rw [Hn.out]; exact Nat.le_refl _)])
        go_wp2
        go_ret
        exact dstr HR2.out hb
set_option maxHeartbeats 2000000 in
theorem l25Text_c (v : Value) (l : List Card) (w : World) (hv : CardsAt w v l) (hok : okCards l = true) : Calls Tryd.prog 38 #[v] w (Gives (.string (strOfNums (cardsCh l))) w) := by
  obtain ⟨a, n, cap, rfl, hn, hl, hm, hc⟩ := hv
  have Hc := Lib.hid hc; clear hc
  have HE := Lib.hid hok
  have hn40 : n ≤ 40 := by rw [hn]; exact okCards_len hok
  have Hn := Lib.hid hn
  clear hn hok
  go_enter Tryd.func38, Tryd.ntmps38
  go_wp2
  go_loopw [3, 4] (fun s i wr => ∃ (k : Nat) (a' : Option Addr) (n' c' : Nat), i = .int .i64 k ∧ k ≤ n ∧ s = .slice a' n' c' ∧ Hid (OwnBytes wr w.heap.size (.slice a' n' c') (cardsCh (l.take k))) ∧ Below w.heap.size w wr) (fun _ i _ => n - (intOf i).toNat)
  case atStart => exact ⟨0, _, _, _, rfl, Nat.zero_le _, rfl, Lib.hid (own_bytes_empty w), by go_grown⟩
  case round =>
    obtain ⟨k, a', n', c', rfl, hk, rfl, HO, hb⟩ := hrel
    by_cases hlt : k < n
    · have hkl : k < l.length := by rw [← Hn.out]; exact hlt
      obtain ⟨b, o, rfl, hbs, hsz, c0, c1, c2⟩ := Hc.out k hkl
      have hon := okCards_name HE.out k hkl
      have hin := okCards_in HE.out k hkl
      have hcl := cardsCh_len HE.out k (by omega)
      have hs1 := decB_size (nth l k).level (by omega) (by omega)
      have hs2 := decB_size (nth l k).due (by omega) (by omega)
      have HI : Hid (chars ((nth l k).name ++ (⟨#[32]⟩ : ByteArray) ++ decB (nth l k).level ++ (⟨#[32]⟩ : ByteArray) ++ decB (nth l k).due ++ (⟨#[10]⟩ : ByteArray)) = cardLine (nth l k)) := Lib.hid (cardLine_chars _)
      have hA : ((nth l k).name ++ (⟨#[32]⟩ : ByteArray) ++ decB (nth l k).level ++ (⟨#[32]⟩ : ByteArray) ++ decB (nth l k).due ++ (⟨#[10]⟩ : ByteArray)).size ≤ 60 := by rw [← chars_len, HI.out]; exact cardLine_len HE.out hkl
      have HS : Hid (cardsCh (l.take (k + 1)) = cardsCh (l.take k) ++ cardLine (nth l k)) := Lib.hid (cardsCh_step l k hkl)
      have HD1 := Lib.hid (fun W => l01Dec_c (nth l k).level (by omega) (by omega) W)
      have HD2 := Lib.hid (fun W => l01Dec_c (nth l k).due (by omega) (by omega) W)
      clear hkl hin hsz
      generalize cardLine (nth l k) = il at *
      generalize (nth l k).name = xn at *
      generalize decB (nth l k).level = da at *
      generalize decB (nth l k).due = db at *
      generalize (nth l k).level = xl at *
      generalize (nth l k).due = xd at *
      have hq1 : ¬ 9223372036854775807 < xn.size + 1 := by omega
      have hq2 : ¬ 9223372036854775807 < xn.size + 1 + da.size := by omega
      have hq3 : ¬ 9223372036854775807 < xn.size + 1 + da.size + 1 := by omega
      have hq4 : ¬ 9223372036854775807 < xn.size + 1 + da.size + 1 + db.size := by omega
      have hq5 : ¬ 9223372036854775807 < xn.size + 1 + da.size + 1 + db.size + 1 := by omega
      go_wp2
      refine wp_region_held_drew (S := fun w' => Below w.heap.size w w') (by kernel_rfl) (by exact (hb).drew) (fun hHeld => ?_)
      refine wpAnyH_take (i := 0) (oi := ⟨_, _, _, _, _, _⟩) (v := ?_) rfl (by kernel_rfl) (by kernel_rfl) (by kernel_rfl) (fun _ _ _ h => h) (Or.inl ⟨by rfl, ?_⟩) (by assumption) ?_; rotate_left; (focus (intro w hSw; (try dsimp only at hSw); go_simp; try with_reducible rfl)); (try simp only [Act.put, List.setIfInBounds_toArray, List.set_cons_zero, List.set_cons_succ])
      refine wpAnyH_take (i := 1) (oi := ⟨_, _, _, _, _, _⟩) (v := ?_) rfl (by kernel_rfl) (by kernel_rfl) (by kernel_rfl) (fun _ _ _ h => h) (Or.inl ⟨by rfl, ?_⟩) (by assumption) ?_; rotate_left; (focus (intro w hSw; (try dsimp only at hSw); go_simp; try with_reducible rfl)); (try simp only [Act.put, List.setIfInBounds_toArray, List.set_cons_zero, List.set_cons_succ])
      refine wpAnyH_take (i := 2) (oi := ⟨_, _, _, _, _, _⟩) (v := ?_) rfl (by kernel_rfl) (by kernel_rfl) (by kernel_rfl) (fun _ _ _ h => h) (Or.inl ⟨by rfl, ?_⟩) (by assumption) ?_; rotate_left; (focus (intro w hSw; (try dsimp only at hSw); go_simp; try with_reducible rfl)); (try simp only [Act.put, List.setIfInBounds_toArray, List.set_cons_zero, List.set_cons_succ])
      refine wpAnyH_take (i := 3) (oi := ⟨_, _, _, _, _, _⟩) (v := ?_) rfl (by kernel_rfl) (by kernel_rfl) (by kernel_rfl) (fun _ _ _ h => h) (Or.inl ⟨by rfl, ?_⟩) (by assumption) ?_; rotate_left; (focus (intro w hSw; (try dsimp only at hSw); go_simp; try with_reducible rfl)); (try simp only [Act.put, List.setIfInBounds_toArray, List.set_cons_zero, List.set_cons_succ])
      refine wpAnyH_take (i := 4) (oi := ⟨_, _, _, _, _, _⟩) (v := ?_) rfl (by kernel_rfl) (by kernel_rfl) (by kernel_rfl) (fun _ _ _ h => h) (Or.inl ⟨by rfl, ?_⟩) (by assumption) ?_; rotate_left; (focus (intro w hSw; (try dsimp only at hSw); go_simp; try with_reducible rfl)); (try simp only [Act.put, List.setIfInBounds_toArray, List.set_cons_zero, List.set_cons_succ])
      refine wpAnyH_take (i := 5) (oi := ⟨_, _, _, _, _, _⟩) (v := ?_) rfl (by kernel_rfl) (by kernel_rfl) (by kernel_rfl) (fun _ _ _ h => h) (Or.inl ⟨by rfl, ?_⟩) (by assumption) ?_; rotate_left; (focus (intro w hSw; (try dsimp only at hSw); have t0 := cell_then hbs c0 hSw; have t1 := cell_then hbs c1 hSw; have t2 := cell_then hbs c2 hSw; go_simp; try with_reducible rfl)); (try simp only [Act.put, List.setIfInBounds_toArray, List.set_cons_zero, List.set_cons_succ])
      refine wpAnyH_take (i := 6) (oi := ⟨_, _, _, _, _, _⟩) (v := ?_) rfl (by kernel_rfl) (by kernel_rfl) (by kernel_rfl) (fun _ _ _ h => h) (Or.inl ⟨by rfl, ?_⟩) (by assumption) ?_; rotate_left; (focus (intro w hSw; (try dsimp only at hSw); go_simp; try with_reducible rfl)); (try simp only [Act.put, List.setIfInBounds_toArray, List.set_cons_zero, List.set_cons_succ])
      refine wpAnyH_take (i := 7) (oi := ⟨_, _, _, _, _, _⟩) (v := ?_) rfl (by kernel_rfl) (by kernel_rfl) (by kernel_rfl) (fun _ _ _ h => h) (Or.inl ⟨by rfl, ?_⟩) (by assumption) ?_; rotate_left; (focus (intro w hSw; (try dsimp only at hSw); go_simp; try with_reducible rfl)); (try simp only [Act.put, List.setIfInBounds_toArray, List.set_cons_zero, List.set_cons_succ])
      refine wpAnyH_take (i := 8) (oi := ⟨_, _, _, _, _, _⟩) (v := ?_) rfl (by kernel_rfl) (by kernel_rfl) (by kernel_rfl) (fun _ _ _ h => h) (Or.inl ⟨by rfl, ?_⟩) (by assumption) ?_; rotate_left; (focus (intro w hSw; (try dsimp only at hSw); go_simp; try with_reducible rfl)); (try simp only [Act.put, List.setIfInBounds_toArray, List.set_cons_zero, List.set_cons_succ])
      refine wpAnyH_take (i := 9) (oi := ⟨_, _, _, _, _, _⟩) (v := ?_) rfl (by kernel_rfl) (by kernel_rfl) (by kernel_rfl) (fun _ _ _ h => h) (Or.inl ⟨by rfl, ?_⟩) (by assumption) ?_; rotate_left; (focus (intro w hSw; (try dsimp only at hSw); go_simp; try with_reducible rfl)); (try simp only [Act.put, List.setIfInBounds_toArray, List.set_cons_zero, List.set_cons_succ])
      refine wpAnyH_take (i := 10) (oi := ⟨_, _, _, _, _, _⟩) (v := ?_) rfl (by kernel_rfl) (by kernel_rfl) (by kernel_rfl) (fun _ _ _ h => h) (Or.inl ⟨by rfl, ?_⟩) (by assumption) ?_; rotate_left; (focus (intro w hSw; (try dsimp only at hSw); go_simp; try with_reducible rfl)); (try simp only [Act.put, List.setIfInBounds_toArray, List.set_cons_zero, List.set_cons_succ])
      refine wpAnyH_take (i := 11) (oi := ⟨_, _, _, _, _, _⟩) (v := ?_) rfl (by kernel_rfl) (by kernel_rfl) (by kernel_rfl) (fun _ _ _ h => h) (Or.inl ⟨by rfl, ?_⟩) (by assumption) ?_; rotate_left; (focus (intro w hSw; (try dsimp only at hSw); have t0 := cell_then hbs c0 hSw; have t1 := cell_then hbs c1 hSw; have t2 := cell_then hbs c2 hSw; go_simp; try with_reducible rfl)); (try simp only [Act.put, List.setIfInBounds_toArray, List.set_cons_zero, List.set_cons_succ])
      refine wpAnyH_take (i := 15) (oi := ⟨_, _, _, _, _, _⟩) (v := ?_) rfl (by kernel_rfl) (by kernel_rfl) (by kernel_rfl) (fun _ _ _ h => h) (Or.inl ⟨by rfl, ?_⟩) (by assumption) ?_; rotate_left; (focus (intro w hSw; (try dsimp only at hSw); go_simp; try with_reducible rfl)); (try simp only [Act.put, List.setIfInBounds_toArray, List.set_cons_zero, List.set_cons_succ])
      refine wpAnyH_take (i := 16) (oi := ⟨_, _, _, _, _, _⟩) (v := ?_) rfl (by kernel_rfl) (by kernel_rfl) (by kernel_rfl) (fun _ _ _ h => h) (Or.inl ⟨by rfl, ?_⟩) (by assumption) ?_; rotate_left; (focus (intro w hSw; (try dsimp only at hSw); go_simp; try with_reducible rfl)); (try simp only [Act.put, List.setIfInBounds_toArray, List.set_cons_zero, List.set_cons_succ])
      refine wpAnyH_take (i := 17) (oi := ⟨_, _, _, _, _, _⟩) (v := ?_) rfl (by kernel_rfl) (by kernel_rfl) (by kernel_rfl) (fun _ _ _ h => h) (Or.inl ⟨by rfl, ?_⟩) (by assumption) ?_; rotate_left; (focus (intro w hSw; (try dsimp only at hSw); go_simp; try with_reducible rfl)); (try simp only [Act.put, List.setIfInBounds_toArray, List.set_cons_zero, List.set_cons_succ])
      refine wpAnyH_take (i := 18) (oi := ⟨_, _, _, _, _, _⟩) (v := ?_) rfl (by kernel_rfl) (by kernel_rfl) (by kernel_rfl) (fun _ _ _ h => h) (Or.inl ⟨by rfl, ?_⟩) (by assumption) ?_; rotate_left; (focus (intro w hSw; (try dsimp only at hSw); go_simp; try with_reducible rfl)); (try simp only [Act.put, List.setIfInBounds_toArray, List.set_cons_zero, List.set_cons_succ])
      refine wpAnyH_take (i := 19) (oi := ⟨_, _, _, _, _, _⟩) (v := ?_) rfl (by kernel_rfl) (by kernel_rfl) (by kernel_rfl) (fun _ _ _ h => h) (Or.inl ⟨by rfl, ?_⟩) (by assumption) ?_; rotate_left; (focus (intro w hSw; (try dsimp only at hSw); have t0 := cell_then hbs c0 hSw; have t1 := cell_then hbs c1 hSw; have t2 := cell_then hbs c2 hSw; go_simp; try with_reducible rfl)); (try simp only [Act.put, List.setIfInBounds_toArray, List.set_cons_zero, List.set_cons_succ])
      refine wpAnyH_ready (rs := [12]) (by kernel_rfl) (by simp) ?_
      refine AllReadyH.cons (o := ⟨_, _, _, _, _, _⟩) rfl (fun K hK => ?_) AllReadyH.nil
      go_simp
      go_at_call 74; (first | (with_reducible refine (HD1.out _).mono ?_) | (with_reducible refine (HD2.out _).mono ?_)); rintro e x1 ⟨rfl, d1⟩; have hS' := bthen hHeld d1; first | (have hd2 := bthen hd1 d1; clear hd1; have hd1 := hd2; clear hd2) | (have hd1 := dbelow_of_drew d1)
      refine hK.out _ _ (by exact hS') (fun hHeld' => ?_)
      clear hHeld hK K
      have hHeld := hHeld'
      clear hHeld'
      try simp only [Act.put, List.setIfInBounds_toArray, List.set_cons_zero, List.set_cons_succ]
      refine wpAnyH_take (i := 13) (oi := ⟨_, _, _, _, _, _⟩) (v := ?_) rfl (by kernel_rfl) (by kernel_rfl) (by kernel_rfl) (fun _ _ _ h => h) (Or.inl ⟨by rfl, ?_⟩) (by assumption) ?_; rotate_left; (focus (intro w hSw; (try dsimp only at hSw); go_simp; try with_reducible rfl)); (try simp only [Act.put, List.setIfInBounds_toArray, List.set_cons_zero, List.set_cons_succ])
      refine wpAnyH_take (i := 14) (oi := ⟨_, _, _, _, _, _⟩) (v := ?_) rfl (by kernel_rfl) (by kernel_rfl) (by kernel_rfl) (fun _ _ _ h => h) (Or.inl ⟨by rfl, ?_⟩) (by assumption) ?_; rotate_left; (focus (intro w hSw; (try dsimp only at hSw); go_simp; try with_reducible rfl)); (try simp only [Act.put, List.setIfInBounds_toArray, List.set_cons_zero, List.set_cons_succ])
      refine wpAnyH_ready (rs := [20]) (by kernel_rfl) (by simp) ?_
      refine AllReadyH.cons (o := ⟨_, _, _, _, _, _⟩) rfl (fun K hK => ?_) AllReadyH.nil
      go_simp
      go_at_call 74; (first | (with_reducible refine (HD1.out _).mono ?_) | (with_reducible refine (HD2.out _).mono ?_)); rintro e x1 ⟨rfl, d1⟩; have hS' := bthen hHeld d1; first | (have hd2 := bthen hd1 d1; clear hd1; have hd1 := hd2; clear hd2) | (have hd1 := dbelow_of_drew d1)
      refine hK.out _ _ (by exact hS') (fun hHeld' => ?_)
      clear hHeld hK K
      have hHeld := hHeld'
      clear hHeld'
      try simp only [Act.put, List.setIfInBounds_toArray, List.set_cons_zero, List.set_cons_succ]
      refine wpAnyH_take (i := 21) (oi := ⟨_, _, _, _, _, _⟩) (v := ?_) rfl (by kernel_rfl) (by kernel_rfl) (by kernel_rfl) (fun _ _ _ h => h) (Or.inl ⟨by rfl, ?_⟩) (by assumption) ?_; rotate_left; (focus (intro w hSw; (try dsimp only at hSw); go_simp; try with_reducible rfl)); (try simp only [Act.put, List.setIfInBounds_toArray, List.set_cons_zero, List.set_cons_succ])
      refine wpAnyH_take (i := 22) (oi := ⟨_, _, _, _, _, _⟩) (v := ?_) rfl (by kernel_rfl) (by kernel_rfl) (by kernel_rfl) (fun _ _ _ h => h) (Or.inl ⟨by rfl, ?_⟩) (by assumption) ?_; rotate_left; (focus (intro w hSw; (try dsimp only at hSw); go_simp; try with_reducible rfl)); (try simp only [Act.put, List.setIfInBounds_toArray, List.set_cons_zero, List.set_cons_succ])
      refine wpAnyH_ready (rs := [23]) (by kernel_rfl) (by simp) ?_
      refine AllReadyH.cons (o := ⟨_, _, _, _, _, _⟩) rfl (fun K hK => ?_) AllReadyH.nil
      refine step_app_text rfl _ _ rfl w.heap.size _ _ rfl (own_below HO.out hd1) _ rfl (by omega) hHeld.size ?_; intro a6 n6 c6 w6 ho6 hg6; have hS' := hHeld.grown hg6 hHeld.size (fun g hg => (World.ownsRow.lt HO.out g hg).1)
      refine hK.out _ _ (by exact hS') (fun hHeld' => ?_)
      clear hHeld hK K
      have hHeld := hHeld'
      clear hHeld'
      try simp only [Act.put, List.setIfInBounds_toArray, List.set_cons_zero, List.set_cons_succ]
      refine wpAnyH_take (i := 24) (oi := ⟨_, _, _, _, _, _⟩) (v := ?_) rfl (by kernel_rfl) (by kernel_rfl) (by kernel_rfl) (fun _ _ _ h => h) (Or.inl ⟨by rfl, ?_⟩) (by assumption) ?_; rotate_left; (focus (intro w hSw; (try dsimp only at hSw); go_simp; try with_reducible rfl)); (try simp only [Act.put, List.setIfInBounds_toArray, List.set_cons_zero, List.set_cons_succ])
      refine wpAnyH_done (by kernel_rfl) ?_ _
      have HO6 : Hid (OwnBytes w6 w.heap.size (.slice a6 n6 c6) (cardsCh (l.take (k + 1)))) := Lib.hid (by rw [HS.out, ← HI.out]; exact ho6)
      clear ho6 hg6
      go_wp2
      exact ⟨⟨k + 1, a6, n6, c6, by go_num, hlt, rfl, HO6, hHeld⟩, by simp [intOf]; omega⟩
    · obtain rfl : k = n := by omega
      have hcv := own_bytes_text HO.out
      have HR : Hid (strOfNums (cardsCh l) = strOfNums (cardsCh (l.take k))) := Lib.hid (by rw [List.take_of_length_le (by rw [Hn.out]; exact Nat.le_refl _)])
      have hcv2 := hcv 9 Tryd.underlying9
      go_wp2
      go_ret
      exact dstr HR.out hb
theorem sCardsText_c (v : Value) (l : List Card) (w : World) (hv : CardsAt w v l) : Calls Tryd.prog 10 #[v] w (Gives (.string (cardsTextB l)) w) := by
  have HV := Lib.hid hv
  have HQ := Lib.hid (l25Ok_c v l w hv)
  have HT := Lib.hid (fun W x h => l25Text_c v l W x h)
  have HR1 : Hid (okCards l = false → cardsTextB l = ByteArray.empty) := Lib.hid (fun h => by unfold cardsTextB; rw [h]; rfl)
  have HR2 : Hid (okCards l = true → cardsTextB l = strOfNums (cardsCh l)) := Lib.hid (fun h => by unfold cardsTextB; rw [h]; rfl)
  clear hv
  generalize okCards l = ok at *
  go_enter Tryd.func10, Tryd.ntmps10
  go_wp2_with fail
  refine HQ.out.mono ?_
  rintro e w1 ⟨rfl, hb1⟩
  cases ok
  · have HR := Lib.hid (HR1.out rfl)
    go_wp2
    go_ret
    exact dstr HR.out hb1
  · have HR := Lib.hid (HR2.out rfl)
    have HT2 := Lib.hid (HT.out w1 (HV.out.below hb1) rfl)
    clear HT HR1 HR2
    go_wp2_with fail
    refine HT2.out.mono ?_
    rintro e w2 ⟨rfl, hb2⟩
    go_wp2
    go_ret
    exact dstr HR.out (bthen hb1 hb2)
end Go.Proofs.YtnhdoppabfmonaaDoor
