import Derived.Test.YtclffohjpbmnbaaDoorMg36
import Derived.Test.YtclffohjpbmnbaaDoorMg37
import Derived.Test.YtclffohjpbmnbaaDoorMg14
import Derived.Test.YtclffohjpbmnbaaDoorMg29
import Derived.Test.YtclffohjpbmnbaaDoorMg34
/- CardTx: the text of a plan, by both packages. -/
namespace Go.Proofs.YtclffohjpbmnbaaDoor
open Go.ChangeShapes Go.WideShapes Go.ChangeAt Go.RowKit

theorem dbelow_of_drew {w w' : World} (h : Below w.drew.heap.size w.drew w') : Below w.heap.size w w' := ((Below.refl w.heap.size w).drew).trans h
def cardLine (c : Card) : List Int := chars c.name ++ (32 :: (chars (decB c.level) ++ (32 :: (chars (decB c.due) ++ [10]))))
def cardsCh (l : List Card) : List Int := l.flatMap cardLine
def cardsTextB (l : List Card) : ByteArray := if okCards l then strOfNums (cardsCh l) else ByteArray.empty
theorem nameB_size' {s : ByteArray} (h : nameB (chars s) = true) : s.size ≤ 12 := by
  rw [← chars_len]
  cases hc : chars s with
  | nil => simp
  | cons c l =>
    rw [hc] at h
    simp only [nameB, Bool.and_eq_true, decide_eq_true_eq] at h
    simp; omega
theorem okCardsF_name : ∀ (l : List Card) (p : Option Card), okCardsF p l = true → ∀ c ∈ l, nameB (chars c.name) = true
  | [], _, _, c, hc => absurd hc List.not_mem_nil
  | x :: l, p, h, c, hc => by
    simp only [okCardsF, Bool.and_eq_true] at h
    rcases List.mem_cons.1 hc with rfl | hc
    · exact h.1.1
    · exact okCardsF_name l _ h.2 c hc
theorem okCards_name {l : List Card} (h : okCards l = true) (k : Nat) (hk : k < l.length) : (nth l k).name.size ≤ 12 := by
  unfold okCards at h
  rw [Bool.and_eq_true] at h
  exact nameB_size' (okCardsF_name l _ h.1 _ (mem_nth hk))
theorem cardLine_len {l : List Card} {k : Nat} (h : okCards l = true) (hk : k < l.length) : (cardLine (nth l k)).length ≤ 60 := by
  have h1 := okCards_name h k hk
  have h2 := okCards_in h k hk
  have h3 := decB_size (nth l k).level (by omega) (by omega)
  have h4 := decB_size (nth l k).due (by omega) (by omega)
  unfold cardLine
  simp only [List.length_append, List.length_cons, chars_len, List.length_nil]
  omega
theorem cardsCh_step (l : List Card) (k : Nat) (hk : k < l.length) : cardsCh (l.take (k + 1)) = cardsCh (l.take k) ++ cardLine (nth l k) := by
  unfold cardsCh; rw [take_nth l k hk, List.flatMap_append]; simp
theorem cardsCh_len {l : List Card} (h : okCards l = true) : ∀ k, k ≤ l.length → (cardsCh (l.take k)).length ≤ k * 60
  | 0, _ => by simp [cardsCh]
  | k + 1, hk => by
    rw [cardsCh_step l k hk, List.length_append]
    have h1 := cardsCh_len h k (by omega)
    have h2 := cardLine_len h hk
    omega
theorem cardLine_chars (c : Card) : chars (c.name ++ (⟨#[32]⟩ : ByteArray) ++ decB c.level ++ (⟨#[32]⟩ : ByteArray) ++ decB c.due ++ (⟨#[10]⟩ : ByteArray)) = cardLine c := by
  have e1 : chars (⟨#[32]⟩ : ByteArray) = [32] := rfl
  have e2 : chars (⟨#[10]⟩ : ByteArray) = [10] := rfl
  unfold cardLine
  simp only [chars_append, e1, e2]
  simp
theorem cardLine_str (c : Card) : c.name ++ (⟨#[32]⟩ : ByteArray) ++ decB c.level ++ (⟨#[32]⟩ : ByteArray) ++ decB c.due ++ (⟨#[10]⟩ : ByteArray) = strOfNums (cardLine c) := by
  rw [← cardLine_chars, strOf_chars]
set_option maxHeartbeats 2000000 in
theorem iCardsText_c (v : Value) (l : List Card) (w : World) (hv : CardsAt w v l) (ht : TabW w) : Calls Tryd.prog 9 #[v] w (Gives (.string (cardsTextB l)) w) := by
  have HQ := Lib.hid (iValidCards_c v l w hv)
  obtain ⟨a, n, cap, rfl, hn, hl, hm, hc⟩ := hv
  have Hc := Lib.hid hc; clear hc
  have HTab := Lib.hid ht; clear ht
  cases hE : okCards l
  · have HR : Hid (cardsTextB l = ByteArray.empty) := Lib.hid (by unfold cardsTextB; rw [hE]; rfl)
    rw [hE] at HQ
    clear hE hn
    go_enter Tryd.func9, Tryd.ntmps9
    go_wp2_with fail
    refine HQ.out.mono ?_
    rintro e w1 ⟨rfl, hb1⟩
    go_wp2
    go_ret
    exact dstr HR.out hb1
  · have HR : Hid (cardsTextB l = strOfNums (cardsCh l)) := Lib.hid (by unfold cardsTextB; rw [hE]; rfl)
    have HE := Lib.hid hE
    have hn40 : n ≤ 40 := by rw [hn]; exact okCards_len hE
    have Hn := Lib.hid hn
    rw [hE] at HQ
    clear hE hn
    go_enter Tryd.func9, Tryd.ntmps9
    go_wp2_with fail
    refine HQ.out.mono ?_
    rintro e w1 ⟨rfl, hb1⟩
    clear HQ
    go_wp2
    go_loopw [3, 11] (fun s i wr => ∃ (k : Nat) (t : ByteArray), i = .int .i64 k ∧ k ≤ n ∧ s = .string t ∧ Hid (t = strOfNums (cardsCh (l.take k))) ∧ Below w.heap.size w wr) (fun _ i _ => n - (intOf i).toNat)
    case atStart => exact ⟨0, _, rfl, Nat.zero_le _, rfl, Lib.hid rfl, hb1⟩
    case round =>
      obtain ⟨k, t, rfl, hk, rfl, HT, hb⟩ := hrel
      by_cases hlt : k < n
      · have hkl : k < l.length := by rw [← Hn.out]; exact hlt
        obtain ⟨b, o, rfl, hbs, hsz, c0, c1, c2⟩ := (Hc.out.below hb) k hkl
        have hon := okCards_name HE.out k hkl
        have hin := okCards_in HE.out k hkl
        have hts : t.size ≤ 2400 := by rw [HT.out, strOfNums_size]; have := cardsCh_len HE.out k (by omega); omega
        have hs1 := decB_size (nth l k).level (by omega) (by omega)
        have hs2 := decB_size (nth l k).due (by omega) (by omega)
        have HT2 : Hid (t ++ ((nth l k).name ++ (⟨#[32]⟩ : ByteArray) ++ decB (nth l k).level ++ (⟨#[32]⟩ : ByteArray) ++ decB (nth l k).due ++ (⟨#[10]⟩ : ByteArray)) = strOfNums (cardsCh (l.take (k + 1)))) := Lib.hid (by rw [cardLine_str, HT.out, ← strOf_append, cardsCh_step l k hkl])
        have HD1 := Lib.hid (fun W x => decimal_c (nth l k).level (by omega) (by omega) W (HTab.out.below x))
        have HD2 := Lib.hid (fun W x => decimal_c (nth l k).due (by omega) (by omega) W (HTab.out.below x))
        clear hkl HT hin hsz
        generalize (nth l k).name = xn at *
        generalize decB (nth l k).level = da at *
        generalize decB (nth l k).due = db at *
        generalize (nth l k).level = xl at *
        generalize (nth l k).due = xd at *
        go_wp2
        generalize hG : World.alloc wr (.cells #[.string xn, .int .i64 xl, .int .i64 xd] 43) = wx at *
        have hbx : Below wr.heap.size wr wx := by rw [← hG]; go_grown
        have HB : Hid (BoxIs wx wr.heap.size [.string xn, .int .i64 xl, .int .i64 xd]) := Lib.hid (by rw [← hG]; exact BoxIs.new _ _ _)
        clear hG c0 c1 c2
        have k0 := cell_regrown (HB.out.2.1 0)
        have k1 := cell_regrown (HB.out.2.1 1)
        have k2 := cell_regrown (HB.out.2.1 2)
        have HX1 := Lib.hid (fun W (x : Below wx.heap.size wx W) => HD1.out W (bthen (bthen hb hbx) x))
        have HX2 := Lib.hid (fun W (x : Below wx.heap.size wx W) => HD2.out W (bthen (bthen hb hbx) x))
        clear HD1 HD2
        refine wp_region_quiet_below (by kernel_rfl) (by kernel_rfl) ?_
        repeat (first | go_big_quiet_step (first | with_reducible exact Calls.regrown_of (HX1.out _ (below_regrown _ _ _)) | with_reducible exact Calls.regrown_of (HX2.out _ (below_regrown _ _ _))) | quiet_step (first | with_reducible exact Calls.regrown_of (HX1.out _ (below_regrown _ _ _)) | with_reducible exact Calls.regrown_of (HX2.out _ (below_regrown _ _ _))))
        refine wpQuiet_nil ?_
        intro _ hw'
        obtain ⟨⟨dq, osq⟩, hw''⟩ := hw'
        subst hw''
        have hbq := below_regrown wx dq osq
        generalize Go.Sort.grow (redrawn wx dq) osq = wq at *
        go_wp2
        exact ⟨⟨k + 1, _, by go_num, hlt, rfl, HT2, bthen hb (bthen hbx hbq)⟩, by simp [intOf]; omega⟩
      · obtain rfl : k = n := by omega
        have HR2 : Hid (cardsTextB l = t) := Lib.hid (by rw [HR.out, HT.out, List.take_of_length_le (by rw [Hn.out]; exact Nat.le_refl _)])
        go_wp2
        go_ret
        exact dstr HR2.out hb
def TxC (l : List Card) : Prop := (∀ x ∈ l, x.name.size ≤ 100 ∧ ((-1 ≤ x.level ∧ x.level ≤ 7) ∧ (-1 ≤ x.due ∧ x.due ≤ 100001))) ∧ l.length ≤ 45
theorem cardLineS_len {x : Card} (h : x.name.size ≤ 100 ∧ ((-1 ≤ x.level ∧ x.level ≤ 7) ∧ (-1 ≤ x.due ∧ x.due ≤ 100001))) : (cardLine x).length ≤ 160 := by
  have h3 := decB_size x.level (by omega) (by omega)
  have h4 := decB_size x.due (by omega) (by omega)
  unfold cardLine
  simp only [List.length_append, List.length_cons, chars_len, List.length_nil]
  omega
theorem cardsChS_len {l : List Card} (h : TxC l) : ∀ k, k ≤ l.length → (cardsCh (l.take k)).length ≤ k * 160
  | 0, _ => by simp [cardsCh]
  | k + 1, hk => by
    rw [cardsCh_step l k hk, List.length_append]
    have h1 := cardsChS_len h k (by omega)
    have h2 := cardLineS_len (h.1 _ (mem_nth (show k < l.length from hk)))
    omega
theorem okCards_tx {l : List Card} (h : okCards l = true) : TxC l := by
  refine ⟨fun x hx => ?_, by have := okCards_len h; omega⟩
  obtain ⟨i, hi, rfl⟩ := List.getElem_of_mem hx
  rw [← nth_eq l i hi]
  have h1 := okCards_name h i hi
  have h2 := okCards_in h i hi
  exact ⟨by omega, by omega, by omega⟩
set_option maxHeartbeats 2000000 in
theorem l25TextS_c (v : Value) (l : List Card) (w : World) (hv : CardsAt w v l) (hok : TxC l) : Calls Tryd.prog 33 #[v] w (Gives (.string (strOfNums (cardsCh l))) w) := by
  obtain ⟨a, n, cap, rfl, hn, hl, hm, hc⟩ := hv
  have Hc := Lib.hid hc; clear hc
  have HE := Lib.hid hok
  have hn40 : n ≤ 45 := by rw [hn]; exact hok.2
  have Hn := Lib.hid hn
  clear hn hok
  go_enter Tryd.func33, Tryd.ntmps33
  go_wp2
  go_loopw [3, 4] (fun s i wr => ∃ (k : Nat) (a' : Option Addr) (n' c' : Nat), i = .int .i64 k ∧ k ≤ n ∧ s = .slice a' n' c' ∧ Hid (OwnBytes wr w.heap.size (.slice a' n' c') (cardsCh (l.take k))) ∧ Below w.heap.size w wr) (fun _ i _ => n - (intOf i).toNat)
  case atStart => exact ⟨0, _, _, _, rfl, Nat.zero_le _, rfl, Lib.hid (own_bytes_empty w), by go_grown⟩
  case round =>
    obtain ⟨k, a', n', c', rfl, hk, rfl, HO, hb⟩ := hrel
    by_cases hlt : k < n
    · have hkl : k < l.length := by rw [← Hn.out]; exact hlt
      obtain ⟨b, o, rfl, hbs, hsz, c0, c1, c2⟩ := Hc.out k hkl
      obtain ⟨hon, hin⟩ := HE.out.1 _ (mem_nth hkl)
      have hcl := cardsChS_len HE.out k (by omega)
      have hs1 := decB_size (nth l k).level (by omega) (by omega)
      have hs2 := decB_size (nth l k).due (by omega) (by omega)
      have HI : Hid (chars ((nth l k).name ++ (⟨#[32]⟩ : ByteArray) ++ decB (nth l k).level ++ (⟨#[32]⟩ : ByteArray) ++ decB (nth l k).due ++ (⟨#[10]⟩ : ByteArray)) = cardLine (nth l k)) := Lib.hid (cardLine_chars _)
      have hA : ((nth l k).name ++ (⟨#[32]⟩ : ByteArray) ++ decB (nth l k).level ++ (⟨#[32]⟩ : ByteArray) ++ decB (nth l k).due ++ (⟨#[10]⟩ : ByteArray)).size ≤ 160 := by rw [← chars_len, HI.out]; exact cardLineS_len (HE.out.1 _ (mem_nth hkl))
      have HS : Hid (cardsCh (l.take (k + 1)) = cardsCh (l.take k) ++ cardLine (nth l k)) := Lib.hid (cardsCh_step l k hkl)
      have HD1 := Lib.hid (fun W => l01Dec_c (nth l k).level (by omega) (by omega) W)
      have HD2 := Lib.hid (fun W => l01Dec_c (nth l k).due (by omega) (by omega) W)
      clear hkl hin hsz
      generalize cardLine (nth l k) = il at *
      generalize (nth l k).name = xn at *
      generalize decB (nth l k).level = da at *
      generalize decB (nth l k).due = db at *
      generalize (nth l k).level = xl at *
      generalize (nth l k).due = xd at *
      have hq1 : ¬ 9223372036854775807 < xn.size + 1 := by omega
      have hq2 : ¬ 9223372036854775807 < xn.size + 1 + da.size := by omega
      have hq3 : ¬ 9223372036854775807 < xn.size + 1 + da.size + 1 := by omega
      have hq4 : ¬ 9223372036854775807 < xn.size + 1 + da.size + 1 + db.size := by omega
      have hq5 : ¬ 9223372036854775807 < xn.size + 1 + da.size + 1 + db.size + 1 := by omega
      go_wp2
      refine wp_region_held_drew (S := fun w' => Below w.heap.size w w') (by kernel_rfl) (by exact (hb).drew) (fun hHeld => ?_)
      refine wpAnyH_take (i := 0) (oi := ⟨_, _, _, _, _, _⟩) (v := ?_) rfl (by kernel_rfl) (by kernel_rfl) (by kernel_rfl) (fun _ _ _ h => h) (Or.inl ⟨by rfl, ?_⟩) (by assumption) ?_; rotate_left; (focus (intro w hSw; (try dsimp only at hSw); go_simp; try with_reducible rfl)); (try simp only [Act.put, List.setIfInBounds_toArray, List.set_cons_zero, List.set_cons_succ])
      refine wpAnyH_take (i := 1) (oi := ⟨_, _, _, _, _, _⟩) (v := ?_) rfl (by kernel_rfl) (by kernel_rfl) (by kernel_rfl) (fun _ _ _ h => h) (Or.inl ⟨by rfl, ?_⟩) (by assumption) ?_; rotate_left; (focus (intro w hSw; (try dsimp only at hSw); go_simp; try with_reducible rfl)); (try simp only [Act.put, List.setIfInBounds_toArray, List.set_cons_zero, List.set_cons_succ])
      refine wpAnyH_take (i := 2) (oi := ⟨_, _, _, _, _, _⟩) (v := ?_) rfl (by kernel_rfl) (by kernel_rfl) (by kernel_rfl) (fun _ _ _ h => h) (Or.inl ⟨by rfl, ?_⟩) (by assumption) ?_; rotate_left; (focus (intro w hSw; (try dsimp only at hSw); go_simp; try with_reducible rfl)); (try simp only [Act.put, List.setIfInBounds_toArray, List.set_cons_zero, List.set_cons_succ])
      refine wpAnyH_take (i := 3) (oi := ⟨_, _, _, _, _, _⟩) (v := ?_) rfl (by kernel_rfl) (by kernel_rfl) (by kernel_rfl) (fun _ _ _ h => h) (Or.inl ⟨by rfl, ?_⟩) (by assumption) ?_; rotate_left; (focus (intro w hSw; (try dsimp only at hSw); go_simp; try with_reducible rfl)); (try simp only [Act.put, List.setIfInBounds_toArray, List.set_cons_zero, List.set_cons_succ])
      refine wpAnyH_take (i := 4) (oi := ⟨_, _, _, _, _, _⟩) (v := ?_) rfl (by kernel_rfl) (by kernel_rfl) (by kernel_rfl) (fun _ _ _ h => h) (Or.inl ⟨by rfl, ?_⟩) (by assumption) ?_; rotate_left; (focus (intro w hSw; (try dsimp only at hSw); go_simp; try with_reducible rfl)); (try simp only [Act.put, List.setIfInBounds_toArray, List.set_cons_zero, List.set_cons_succ])
      refine wpAnyH_take (i := 5) (oi := ⟨_, _, _, _, _, _⟩) (v := ?_) rfl (by kernel_rfl) (by kernel_rfl) (by kernel_rfl) (fun _ _ _ h => h) (Or.inl ⟨by rfl, ?_⟩) (by assumption) ?_; rotate_left; (focus (intro w hSw; (try dsimp only at hSw); have t0 := cell_then hbs c0 hSw; have t1 := cell_then hbs c1 hSw; have t2 := cell_then hbs c2 hSw; go_simp; try with_reducible rfl)); (try simp only [Act.put, List.setIfInBounds_toArray, List.set_cons_zero, List.set_cons_succ])
      refine wpAnyH_take (i := 6) (oi := ⟨_, _, _, _, _, _⟩) (v := ?_) rfl (by kernel_rfl) (by kernel_rfl) (by kernel_rfl) (fun _ _ _ h => h) (Or.inl ⟨by rfl, ?_⟩) (by assumption) ?_; rotate_left; (focus (intro w hSw; (try dsimp only at hSw); go_simp; try with_reducible rfl)); (try simp only [Act.put, List.setIfInBounds_toArray, List.set_cons_zero, List.set_cons_succ])
      refine wpAnyH_take (i := 7) (oi := ⟨_, _, _, _, _, _⟩) (v := ?_) rfl (by kernel_rfl) (by kernel_rfl) (by kernel_rfl) (fun _ _ _ h => h) (Or.inl ⟨by rfl, ?_⟩) (by assumption) ?_; rotate_left; (focus (intro w hSw; (try dsimp only at hSw); go_simp; try with_reducible rfl)); (try simp only [Act.put, List.setIfInBounds_toArray, List.set_cons_zero, List.set_cons_succ])
      refine wpAnyH_take (i := 8) (oi := ⟨_, _, _, _, _, _⟩) (v := ?_) rfl (by kernel_rfl) (by kernel_rfl) (by kernel_rfl) (fun _ _ _ h => h) (Or.inl ⟨by rfl, ?_⟩) (by assumption) ?_; rotate_left; (focus (intro w hSw; (try dsimp only at hSw); go_simp; try with_reducible rfl)); (try simp only [Act.put, List.setIfInBounds_toArray, List.set_cons_zero, List.set_cons_succ])
      refine wpAnyH_take (i := 9) (oi := ⟨_, _, _, _, _, _⟩) (v := ?_) rfl (by kernel_rfl) (by kernel_rfl) (by kernel_rfl) (fun _ _ _ h => h) (Or.inl ⟨by rfl, ?_⟩) (by assumption) ?_; rotate_left; (focus (intro w hSw; (try dsimp only at hSw); go_simp; try with_reducible rfl)); (try simp only [Act.put, List.setIfInBounds_toArray, List.set_cons_zero, List.set_cons_succ])
      refine wpAnyH_take (i := 10) (oi := ⟨_, _, _, _, _, _⟩) (v := ?_) rfl (by kernel_rfl) (by kernel_rfl) (by kernel_rfl) (fun _ _ _ h => h) (Or.inl ⟨by rfl, ?_⟩) (by assumption) ?_; rotate_left; (focus (intro w hSw; (try dsimp only at hSw); go_simp; try with_reducible rfl)); (try simp only [Act.put, List.setIfInBounds_toArray, List.set_cons_zero, List.set_cons_succ])
      refine wpAnyH_take (i := 11) (oi := ⟨_, _, _, _, _, _⟩) (v := ?_) rfl (by kernel_rfl) (by kernel_rfl) (by kernel_rfl) (fun _ _ _ h => h) (Or.inl ⟨by rfl, ?_⟩) (by assumption) ?_; rotate_left; (focus (intro w hSw; (try dsimp only at hSw); have t0 := cell_then hbs c0 hSw; have t1 := cell_then hbs c1 hSw; have t2 := cell_then hbs c2 hSw; go_simp; try with_reducible rfl)); (try simp only [Act.put, List.setIfInBounds_toArray, List.set_cons_zero, List.set_cons_succ])
      refine wpAnyH_take (i := 15) (oi := ⟨_, _, _, _, _, _⟩) (v := ?_) rfl (by kernel_rfl) (by kernel_rfl) (by kernel_rfl) (fun _ _ _ h => h) (Or.inl ⟨by rfl, ?_⟩) (by assumption) ?_; rotate_left; (focus (intro w hSw; (try dsimp only at hSw); go_simp; try with_reducible rfl)); (try simp only [Act.put, List.setIfInBounds_toArray, List.set_cons_zero, List.set_cons_succ])
      refine wpAnyH_take (i := 16) (oi := ⟨_, _, _, _, _, _⟩) (v := ?_) rfl (by kernel_rfl) (by kernel_rfl) (by kernel_rfl) (fun _ _ _ h => h) (Or.inl ⟨by rfl, ?_⟩) (by assumption) ?_; rotate_left; (focus (intro w hSw; (try dsimp only at hSw); go_simp; try with_reducible rfl)); (try simp only [Act.put, List.setIfInBounds_toArray, List.set_cons_zero, List.set_cons_succ])
      refine wpAnyH_take (i := 17) (oi := ⟨_, _, _, _, _, _⟩) (v := ?_) rfl (by kernel_rfl) (by kernel_rfl) (by kernel_rfl) (fun _ _ _ h => h) (Or.inl ⟨by rfl, ?_⟩) (by assumption) ?_; rotate_left; (focus (intro w hSw; (try dsimp only at hSw); go_simp; try with_reducible rfl)); (try simp only [Act.put, List.setIfInBounds_toArray, List.set_cons_zero, List.set_cons_succ])
      refine wpAnyH_take (i := 18) (oi := ⟨_, _, _, _, _, _⟩) (v := ?_) rfl (by kernel_rfl) (by kernel_rfl) (by kernel_rfl) (fun _ _ _ h => h) (Or.inl ⟨by rfl, ?_⟩) (by assumption) ?_; rotate_left; (focus (intro w hSw; (try dsimp only at hSw); go_simp; try with_reducible rfl)); (try simp only [Act.put, List.setIfInBounds_toArray, List.set_cons_zero, List.set_cons_succ])
      refine wpAnyH_take (i := 19) (oi := ⟨_, _, _, _, _, _⟩) (v := ?_) rfl (by kernel_rfl) (by kernel_rfl) (by kernel_rfl) (fun _ _ _ h => h) (Or.inl ⟨by rfl, ?_⟩) (by assumption) ?_; rotate_left; (focus (intro w hSw; (try dsimp only at hSw); have t0 := cell_then hbs c0 hSw; have t1 := cell_then hbs c1 hSw; have t2 := cell_then hbs c2 hSw; go_simp; try with_reducible rfl)); (try simp only [Act.put, List.setIfInBounds_toArray, List.set_cons_zero, List.set_cons_succ])
      refine wpAnyH_ready (rs := [12]) (by kernel_rfl) (by simp) ?_
      refine AllReadyH.cons (o := ⟨_, _, _, _, _, _⟩) rfl (fun K hK => ?_) AllReadyH.nil
      go_simp
      go_at_call 58; (first | (with_reducible refine (HD1.out _).mono ?_) | (with_reducible refine (HD2.out _).mono ?_)); rintro e x1 ⟨rfl, d1⟩; have hS' := bthen hHeld d1; first | (have hd2 := bthen hd1 d1; clear hd1; have hd1 := hd2; clear hd2) | (have hd1 := dbelow_of_drew d1)
      refine hK.out _ _ (by exact hS') (fun hHeld' => ?_)
      clear hHeld hK K
      have hHeld := hHeld'
      clear hHeld'
      try simp only [Act.put, List.setIfInBounds_toArray, List.set_cons_zero, List.set_cons_succ]
      refine wpAnyH_take (i := 13) (oi := ⟨_, _, _, _, _, _⟩) (v := ?_) rfl (by kernel_rfl) (by kernel_rfl) (by kernel_rfl) (fun _ _ _ h => h) (Or.inl ⟨by rfl, ?_⟩) (by assumption) ?_; rotate_left; (focus (intro w hSw; (try dsimp only at hSw); go_simp; try with_reducible rfl)); (try simp only [Act.put, List.setIfInBounds_toArray, List.set_cons_zero, List.set_cons_succ])
      refine wpAnyH_take (i := 14) (oi := ⟨_, _, _, _, _, _⟩) (v := ?_) rfl (by kernel_rfl) (by kernel_rfl) (by kernel_rfl) (fun _ _ _ h => h) (Or.inl ⟨by rfl, ?_⟩) (by assumption) ?_; rotate_left; (focus (intro w hSw; (try dsimp only at hSw); go_simp; try with_reducible rfl)); (try simp only [Act.put, List.setIfInBounds_toArray, List.set_cons_zero, List.set_cons_succ])
      refine wpAnyH_ready (rs := [20]) (by kernel_rfl) (by simp) ?_
      refine AllReadyH.cons (o := ⟨_, _, _, _, _, _⟩) rfl (fun K hK => ?_) AllReadyH.nil
      go_simp
      go_at_call 58; (first | (with_reducible refine (HD1.out _).mono ?_) | (with_reducible refine (HD2.out _).mono ?_)); rintro e x1 ⟨rfl, d1⟩; have hS' := bthen hHeld d1; first | (have hd2 := bthen hd1 d1; clear hd1; have hd1 := hd2; clear hd2) | (have hd1 := dbelow_of_drew d1)
      refine hK.out _ _ (by exact hS') (fun hHeld' => ?_)
      clear hHeld hK K
      have hHeld := hHeld'
      clear hHeld'
      try simp only [Act.put, List.setIfInBounds_toArray, List.set_cons_zero, List.set_cons_succ]
      refine wpAnyH_take (i := 21) (oi := ⟨_, _, _, _, _, _⟩) (v := ?_) rfl (by kernel_rfl) (by kernel_rfl) (by kernel_rfl) (fun _ _ _ h => h) (Or.inl ⟨by rfl, ?_⟩) (by assumption) ?_; rotate_left; (focus (intro w hSw; (try dsimp only at hSw); go_simp; try with_reducible rfl)); (try simp only [Act.put, List.setIfInBounds_toArray, List.set_cons_zero, List.set_cons_succ])
      refine wpAnyH_take (i := 22) (oi := ⟨_, _, _, _, _, _⟩) (v := ?_) rfl (by kernel_rfl) (by kernel_rfl) (by kernel_rfl) (fun _ _ _ h => h) (Or.inl ⟨by rfl, ?_⟩) (by assumption) ?_; rotate_left; (focus (intro w hSw; (try dsimp only at hSw); go_simp; try with_reducible rfl)); (try simp only [Act.put, List.setIfInBounds_toArray, List.set_cons_zero, List.set_cons_succ])
      refine wpAnyH_ready (rs := [23]) (by kernel_rfl) (by simp) ?_
      refine AllReadyH.cons (o := ⟨_, _, _, _, _, _⟩) rfl (fun K hK => ?_) AllReadyH.nil
      refine step_app_text rfl _ _ rfl w.heap.size _ _ rfl (own_below HO.out hd1) _ rfl (by omega) hHeld.size ?_; intro a6 n6 c6 w6 ho6 hg6; have hS' := hHeld.grown hg6 hHeld.size (fun g hg => (World.ownsRow.lt HO.out g hg).1)
      refine hK.out _ _ (by exact hS') (fun hHeld' => ?_)
      clear hHeld hK K
      have hHeld := hHeld'
      clear hHeld'
      try simp only [Act.put, List.setIfInBounds_toArray, List.set_cons_zero, List.set_cons_succ]
      refine wpAnyH_take (i := 24) (oi := ⟨_, _, _, _, _, _⟩) (v := ?_) rfl (by kernel_rfl) (by kernel_rfl) (by kernel_rfl) (fun _ _ _ h => h) (Or.inl ⟨by rfl, ?_⟩) (by assumption) ?_; rotate_left; (focus (intro w hSw; (try dsimp only at hSw); go_simp; try with_reducible rfl)); (try simp only [Act.put, List.setIfInBounds_toArray, List.set_cons_zero, List.set_cons_succ])
      refine wpAnyH_done (by kernel_rfl) ?_ _
      have HO6 : Hid (OwnBytes w6 w.heap.size (.slice a6 n6 c6) (cardsCh (l.take (k + 1)))) := Lib.hid (by rw [HS.out, ← HI.out]; exact ho6)
      clear ho6 hg6
      go_wp2
      exact ⟨⟨k + 1, a6, n6, c6, by go_num, hlt, rfl, HO6, hHeld⟩, by simp [intOf]; omega⟩
    · obtain rfl : k = n := by omega
      have hcv := own_bytes_text HO.out
      have HR : Hid (strOfNums (cardsCh l) = strOfNums (cardsCh (l.take k))) := Lib.hid (by rw [List.take_of_length_le (by rw [Hn.out]; exact Nat.le_refl _)])
      have hcv2 := hcv 9 Tryd.underlying9
      go_wp2
      go_ret
      exact dstr HR.out hb
theorem l25Text_c (v : Value) (l : List Card) (w : World) (hv : CardsAt w v l) (hok : okCards l = true) : Calls Tryd.prog 33 #[v] w (Gives (.string (strOfNums (cardsCh l))) w) := l25TextS_c v l w hv (okCards_tx hok)
theorem sCardsText_c (v : Value) (l : List Card) (w : World) (hv : CardsAt w v l) : Calls Tryd.prog 18 #[v] w (Gives (.string (cardsTextB l)) w) := by
  have HV := Lib.hid hv
  have HQ := Lib.hid (l25Ok_c v l w hv)
  have HT := Lib.hid (fun W x h => l25Text_c v l W x h)
  have HR1 : Hid (okCards l = false → cardsTextB l = ByteArray.empty) := Lib.hid (fun h => by unfold cardsTextB; rw [h]; rfl)
  have HR2 : Hid (okCards l = true → cardsTextB l = strOfNums (cardsCh l)) := Lib.hid (fun h => by unfold cardsTextB; rw [h]; rfl)
  clear hv
  generalize okCards l = ok at *
  go_enter Tryd.func18, Tryd.ntmps18
  go_wp2_with fail
  refine HQ.out.mono ?_
  rintro e w1 ⟨rfl, hb1⟩
  cases ok
  · have HR := Lib.hid (HR1.out rfl)
    go_wp2
    go_ret
    exact dstr HR.out hb1
  · have HR := Lib.hid (HR2.out rfl)
    have HT2 := Lib.hid (HT.out w1 (HV.out.below hb1) rfl)
    clear HT HR1 HR2
    go_wp2_with fail
    refine HT2.out.mono ?_
    rintro e w2 ⟨rfl, hb2⟩
    go_wp2
    go_ret
    exact dstr HR.out (bthen hb1 hb2)
end Go.Proofs.YtclffohjpbmnbaaDoor

/- ReadCL: plain: what the reading of a plan says. -/
namespace Go.Proofs.YtclffohjpbmnbaaDoor
open Go.ChangeShapes Go.WideShapes Go.ChangeAt Go.RowKit

def cLineOk (p : List Int) : Bool := decide ((splitL 32 p).length = 3) && (numOk (nth (splitL 32 p) 1) && numOk (nth (splitL 32 p) 2))
def cLineCard (p : List Int) : Card := ⟨strOfNums (nth (splitL 32 p) 0), numN (nth (splitL 32 p) 1), numN (nth (splitL 32 p) 2)⟩
def rcOk (cs : List Int) : Bool := linesOk cs && ((linesL cs).all cLineOk && okCards ((linesL cs).map cLineCard))
def rcL (cs : List Int) : List Card := if rcOk cs then (linesL cs).map cLineCard else []
theorem rcOk_lines {cs : List Int} (h : linesOk cs = false) : rcOk cs = false := by unfold rcOk; rw [h]; rfl
theorem rcOk_bad {cs : List Int} {k : Nat} (hk : k < (linesL cs).length) (h : cLineOk (nth (linesL cs) k) = false) : rcOk cs = false := by
  unfold rcOk
  have h2 : (linesL cs).all cLineOk = false := by
    cases ha : (linesL cs).all cLineOk
    · rfl
    · have := List.all_eq_true.1 ha _ (mem_nth hk)
      rw [h] at this; exact absurd this (by decide)
  rw [h2]; simp
theorem rcOk_all {cs : List Int} (h1 : linesOk cs = true) (h2 : ∀ j, j < (linesL cs).length → cLineOk (nth (linesL cs) j) = true) : rcOk cs = okCards ((linesL cs).map cLineCard) := by
  unfold rcOk
  have h3 : (linesL cs).all cLineOk = true := by
    rw [List.all_eq_true]
    intro x hx
    obtain ⟨i, hi, rfl⟩ := List.getElem_of_mem hx
    rw [← nth_eq _ i hi]; exact h2 i hi
  rw [h1, h3]; rfl
theorem rcL_no {cs : List Int} (h : rcOk cs = false) : rcL cs = [] := by unfold rcL; rw [h]; rfl
theorem rcL_yes {cs : List Int} (h : rcOk cs = true) : rcL cs = (linesL cs).map cLineCard := by unfold rcL; rw [h]; rfl
theorem rcOk_long {cs : List Int} (h : 40 < (linesL cs).length) : rcOk cs = false := by
  cases hr : rcOk cs
  · rfl
  · unfold rcOk at hr
    simp only [Bool.and_eq_true] at hr
    have := okCards_len hr.2.2
    rw [List.length_map] at this; omega
theorem cLine_back {p : List Int} (h : cLineOk p = true) (hp : ∀ x ∈ p, 0 ≤ x ∧ x ≤ 255) : cardLine (cLineCard p) = p ++ [10] := by
  unfold cLineOk at h
  simp only [Bool.and_eq_true, decide_eq_true_eq] at h
  obtain ⟨h3, h1, h2⟩ := h
  have hin : ∀ i, i < 3 → ∀ x ∈ nth (splitL 32 p) i, 0 ≤ x ∧ x ≤ 255 := fun i hi x hx => hp x (split_mem 32 p _ (mem_nth (by omega)) x hx)
  have hb := split3_back h3
  unfold cardLine cLineCard
  dsimp only
  rw [numOk_dec h1, numOk_dec h2, chars_strOf (hin 0 (by omega)), chars_strOf (hin 1 (by omega)), chars_strOf (hin 2 (by omega))]
  conv => rhs; rw [← hb]
  simp
theorem rc_back {cs : List Int} (hok : linesOk cs = true) (hall : ∀ j, j < (linesL cs).length → cLineOk (nth (linesL cs) j) = true) (hin : ∀ x ∈ cs, 0 ≤ x ∧ x ≤ 255) : cardsCh ((linesL cs).map cLineCard) = cs := by
  unfold cardsCh
  rw [List.flatMap_map]
  have e : (linesL cs).flatMap (fun a => cardLine (cLineCard a)) = (linesL cs).flatMap (fun p => p ++ [10]) := by
    have key : ∀ (L : List (List Int)), (∀ p ∈ L, cLineOk p = true ∧ ∀ x ∈ p, 0 ≤ x ∧ x ≤ 255) → L.flatMap (fun a => cardLine (cLineCard a)) = L.flatMap (fun p => p ++ [10]) := by
      intro L
      induction L with
      | nil => intro _; rfl
      | cons p L ih =>
        intro h
        have h1 := h p (List.mem_cons_self ..)
        rw [List.flatMap_cons, List.flatMap_cons, cLine_back h1.1 h1.2, ih (fun q hq => h q (List.mem_cons_of_mem _ hq))]
    refine key _ (fun p hp => ?_)
    obtain ⟨i, hi, rfl⟩ := List.getElem_of_mem hp
    refine ⟨by rw [← nth_eq _ i hi]; exact hall i hi, fun x hx => hin x (split_mem 10 cs _ (lines_mem hp) x hx)⟩
  rw [e, lines_back hok]
theorem rcL_len (cs : List Int) : (rcL cs).length ≤ 1099511627776 := by
  unfold rcL
  split
  · rename_i h
    unfold rcOk at h
    simp only [Bool.and_eq_true] at h
    have := okCards_len h.2.2
    omega
  · simp
theorem cardNew3 (w : World) (c : Card) (hs : c.name.size ≤ 9223372036854775807) (t : TypeId) : Reads (w.alloc (.cells #[.string c.name, .int .i64 c.level, .int .i64 c.due] t)) (w.alloc (.cells #[.string c.name, .int .i64 c.level, .int .i64 c.due] t)).heap.size 3 (some ⟨w.heap.size, 0, none⟩) 1 ([c].flatMap cardCells) := by
  have h : CardsC (w.alloc (.cells #[.string c.name, .int .i64 c.level, .int .i64 c.due] t)) (some ⟨w.heap.size, 0, none⟩) [c] := by
    intro i hi
    obtain rfl : i = 0 := by simpa using hi
    refine ⟨w.heap.size, 0, rfl, by simp, by simpa [nth] using hs, ?_, ?_, ?_⟩
    · rw [World.cell?_alloc_at _ _ _ _ rfl]; rfl
    · rw [World.cell?_alloc_at _ _ _ _ rfl]; rfl
    · rw [World.cell?_alloc_at _ _ _ _ rfl]; rfl
  exact cards_reads h
end Go.Proofs.YtclffohjpbmnbaaDoor
