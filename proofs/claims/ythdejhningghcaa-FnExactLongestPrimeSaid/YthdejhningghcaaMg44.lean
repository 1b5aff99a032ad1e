import Derived.Test.YthdejhningghcaaMg43
/- StableMx: the library's stable sort, walked: two sorted rows merged. -/
namespace Go.Proofs.Ythdejhningghcaa
open Go.ChangeShapes Go.WideShapes Go.ChangeAt Go.RowKit
open Go.Sort (swp PermIn)
variable {EV : EncV}

/-- What the sort is asked over: a row, a comparison, an order that settles ties. -/
structure SortOn (EV : EncV) (w0 : World) (g n : Nat) (cur : Array Value) (e : TypeId) (gl : Nat) (lb : Array Value) (sf : Nat) (sb : Array Value) (lt lt' : Int → Int → Bool) (d0 : Array Int) : Prop where
  S : SwapOk EV sf sb n w0 g cur e
  L : LessOk EV gl lb lt n d0 w0 g cur e
  eg : ∀ args w, (callFunc gl args).run Try.prog w = .ok (.enter gl args) w
  tr : ∀ x y z, lt' x y = true → lt' y z = true → lt' x z = true
  hn : n ≤ 1000000
  d0n : d0.size = n
set_option maxRecDepth 100000 in
set_option maxHeartbeats 4000000 in
theorem symMerge1 {w0 : World} {g n : Nat} {cur : Array Value} {e : TypeId} {gl : Nat} {lb : Array Value} {sf : Nat} {sb : Array Value} {lt lt' : Int → Int → Bool} {d0 : Array Int} (hO : SortOn EV w0 g n cur e gl lb sf sb lt lt' d0)
    (a b : Nat) (d : Array Int) (W : World) (hR : RowAt EV w0 g cur e d W) (hp : PermIn 0 n d0 d) (hM : MPre lt lt' a (a + 1) b d) (hab : a + 1 < b) (hb : b ≤ n) :
    Calls Try.prog 67 #[.agg #[.func (.func gl) #[] lb, .func (.func sf) #[] sb], .int .i64 a, .int .i64 ((a : Int) + 1), .int .i64 b] W (fun x W' => x = .returned (.tuple #[]) ∧ ∃ d', RowAt EV W g cur e d' W' ∧ PermIn a b d d' ∧ Srt lt' a b d') := by
  have hn := hO.hn
  have eg := hO.eg
  have HO := Lib.hid hO
  have HD : Hid (d.size = n) := Lib.hid (hp.1.trans hO.d0n)
  have hg := hR.lt
  have HR := Lib.hid hR
  have HP := Lib.hid hp
  have HM := Lib.hid hM
  have hw1 : IntKind.i64.wrap ((a : Int) + 1 - a) = 1 := by rw [IntWalk.i64_in _ (by omega)]; omega
  have he1 : ((a : Int) + 1 - a) = 1 := by omega
  clear hO hR hp hM
  go_enter Try.func67, Try.ntmps67
  go_wp2
  go_loopw [8, 9] (fun vi vj wr => ∃ (i j : Nat), vi = .int .i64 i ∧ vj = .int .i64 j ∧ a + 1 ≤ i ∧ i ≤ j ∧ j ≤ b ∧ Hid (∀ t, a + 1 ≤ t → t < i → lt' d[t]! d[a]! = true) ∧ Hid (∀ t, j ≤ t → t < b → lt' d[a]! d[t]! = true) ∧ Hid (RowAt EV W g cur e d wr) ∧ Hid (BoxIs wr W.heap.size [.func (.func gl) #[] lb, .func (.func sf) #[] sb])) (fun vi vj _ => (intOf vj).toNat - (intOf vi).toNat)
  case atStart => exact ⟨a + 1, b, by go_num, rfl, Nat.le_refl _, by omega, Nat.le_refl _, Lib.hid (fun t h1 h2 => by omega), Lib.hid (fun t h1 h2 => by omega), Lib.hid (HR.out.self.below (by go_grown)), Lib.hid (BoxIs.new W [.func (.func gl) #[] lb, .func (.func sf) #[] sb] _)⟩
  case round =>
    obtain ⟨i, j, rfl, rfl, hai, hij, hjb, HLo, HHi, HRw, HB⟩ := hrel
    clear hw1 he1
    have hbx0 := HB.out.2.1 0
    have hbx1 := HB.out.2.1 1
    by_cases hlt : i < j
    · obtain ⟨h, hh⟩ : ∃ h : Nat, (i + j) / 2 = h := ⟨_, rfl⟩
      have hh' : ((i : Int) + (j : Int)) / 2 = (h : Int) := by omega
      have hih : i ≤ h := by omega
      have hhj : h < j := by omega
      clear hh
      have hl := HO.out.L wr d (HR.out.trans HRw.out) HP.out h a (by omega) (by omega)
      have hX := HM.out.X a h (Nat.le_refl _) (by omega) (by omega) (by omega)
      cases hlv : lt d[h]! d[a]!
      · rw [hlv] at hl
        have HHi2 : Hid (∀ t, h ≤ t → t < b → lt' d[a]! d[t]! = true) := Lib.hid (fun t h1 h2 => by
          rcases Nat.lt_or_ge h t with c | c
          · exact HO.out.tr _ _ _ (hX.2 hlv) (HM.out.R h t (by omega) c h2)
          · obtain rfl : t = h := by omega
            exact hX.2 hlv)
        clear hX hlv
        go_wp2_with (go_at_fn gl; refine hl.mono ?_; rintro x w2 ⟨rfl, hb2⟩)
        have HR2 := Lib.hid (HRw.out.below hb2)
        have HB2 := Lib.hid (HB.out.below hb2)
        clear hl hb2 hbx0 hbx1
        go_wp2
        exact ⟨⟨i, h, rfl, rfl, hai, hih, by omega, HLo, HHi2, HR2, HB2⟩, by simp [intOf]; omega⟩
      · rw [hlv] at hl
        have HLo2 : Hid (∀ t, a + 1 ≤ t → t < h + 1 → lt' d[t]! d[a]! = true) := Lib.hid (fun t h1 h2 => by
          rcases Nat.lt_or_ge t h with c | c
          · exact HO.out.tr _ _ _ (HM.out.R t h h1 c (by omega)) (hX.1 hlv)
          · obtain rfl : t = h := by omega
            exact hX.1 hlv)
        clear hX hlv
        go_wp2_with (go_at_fn gl; refine hl.mono ?_; rintro x w2 ⟨rfl, hb2⟩)
        have HR2 := Lib.hid (HRw.out.below hb2)
        have HB2 := Lib.hid (HB.out.below hb2)
        clear hl hb2 hbx0 hbx1
        go_wp2
        exact ⟨⟨h + 1, j, by go_num, rfl, by omega, by omega, hjb, HLo2, HHi, HR2, HB2⟩, by simp [intOf]; omega⟩
    · obtain rfl : i = j := by omega
      have hwi : IntKind.i64.wrap ((i : Int) - 1) = (i : Int) - 1 := IntWalk.i64_in _ (by omega)
      clear hbx0 hbx1
      go_wp2
      go_loopw [11] (fun vk wr => ∃ (k : Nat) (dk : Array Int), vk = .int .i64 k ∧ a ≤ k ∧ k + 1 ≤ i ∧ Hid (IxTo (rotIx a (a + 1) (k + 1)) d dk) ∧ Hid (PermIn a b d dk) ∧ Hid (RowAt EV W g cur e dk wr) ∧ Hid (BoxIs wr W.heap.size [.func (.func gl) #[] lb, .func (.func sf) #[] sb])) (fun vk _ => i - (intOf vk).toNat)
      case atStart => exact ⟨a, d, rfl, Nat.le_refl _, hai, Lib.hid (rot_id d (.inr rfl) (by omega) (by omega)), Lib.hid (Go.Sort.permIn_refl _ _ _), HRw, HB⟩
      case round =>
        obtain ⟨k, dk, rfl, hak, hki, HX, HPk, HRk, HBk⟩ := hrel
        have hbx1 := HBk.out.2.1 1
        by_cases hlt2 : k + 1 < i
        · have hdk : dk.size = n := HX.out.1.trans HD.out
          have hs := HO.out.S wr dk (HR.out.trans HRk.out) hdk k (k + 1) (by omega) (by omega)
          rw [show (((k + 1 : Nat)) : Int) = (k : Int) + 1 by omega] at hs
          have HR2 := Lib.hid (HRk.out.swap (i := k) (j := k + 1) (by omega) (by omega))
          have HX2 := Lib.hid (rot_up HX.out hak (by rw [HD.out]; omega))
          have HP2 : Hid (PermIn a b d (swp dk k (k + 1))) := Lib.hid (Go.Sort.permIn_trans _ _ _ _ _ HPk.out (Go.Sort.swp_permIn dk a b k (k + 1) (by omega) (by omega) (by omega) (by omega) (by omega)))
          have HB2 := Lib.hid ((HBk.out.set_other (c := g) (by omega) k (EV.enc dk[k + 1]!)).set_other (c := g) (by omega) (k + 1) (EV.enc dk[k]!))
          have hd1 : decide ((k : Int) < (i : Int) - 1) = true := decide_eq_true (by omega)
          clear hdk
          go_wp2
          exact ⟨⟨k + 1, _, by go_num, by omega, hlt2, HX2, HP2, HR2, HB2⟩, by simp [intOf]; omega⟩
        · obtain rfl : i = k + 1 := by omega
          have HS : Hid (Srt lt' a b dk) := Lib.hid (merge1_srt HM.out HX.out hai hjb HLo.out HHi.out)
          have hd1 : decide ((k : Int) < ((k + 1 : Nat) : Int) - 1) = false := decide_eq_false (by omega)
          go_wp2
          (try simp only [Exit.inBlock, Exit.then])
          refine bodyPost_ret (results_none rfl _ _ _) rfl ?_
          exact ⟨rfl, dk, HRk.out, HPk.out, HS.out⟩
set_option maxRecDepth 100000 in
set_option maxHeartbeats 4000000 in
theorem symMerge2 {w0 : World} {g n : Nat} {cur : Array Value} {e : TypeId} {gl : Nat} {lb : Array Value} {sf : Nat} {sb : Array Value} {lt lt' : Int → Int → Bool} {d0 : Array Int} (hO : SortOn EV w0 g n cur e gl lb sf sb lt lt' d0)
    (a m : Nat) (d : Array Int) (W : World) (hR : RowAt EV w0 g cur e d W) (hp : PermIn 0 n d0 d) (hM : MPre lt lt' a m (m + 1) d) (ham : a + 1 < m) (hb : m + 1 ≤ n) :
    Calls Try.prog 67 #[.agg #[.func (.func gl) #[] lb, .func (.func sf) #[] sb], .int .i64 a, .int .i64 m, .int .i64 ((m : Int) + 1)] W (fun x W' => x = .returned (.tuple #[]) ∧ ∃ d', RowAt EV W g cur e d' W' ∧ PermIn a (m + 1) d d' ∧ Srt lt' a (m + 1) d') := by
  have hn := hO.hn
  have eg := hO.eg
  have HO := Lib.hid hO
  have HD : Hid (d.size = n) := Lib.hid (hp.1.trans hO.d0n)
  have hg := hR.lt
  have HR := Lib.hid hR
  have HP := Lib.hid hp
  have HM := Lib.hid hM
  clear hO hR hp hM
  have hw0 : IntKind.i64.wrap ((m : Int) - a) = ((m - a : Nat) : Int) := by rw [IntWalk.i64_in _ (by omega)]; omega
  have hne1 : (((m - a : Nat) : Int) == 1) = false := beq_eq_false_iff_ne.2 (by omega)
  have hne2 : (((m : Int) - a) == 1) = false := beq_eq_false_iff_ne.2 (by omega)
  have he1 : ((m : Int) + 1 - m) = 1 := by omega
  go_enter Try.func67, Try.ntmps67
  go_wp2
  go_loopw [12, 13] (fun vi vj wr => ∃ (i j : Nat), vi = .int .i64 i ∧ vj = .int .i64 j ∧ a ≤ i ∧ i ≤ j ∧ j ≤ m ∧ Hid (∀ t, a ≤ t → t < i → lt' d[t]! d[m]! = true) ∧ Hid (∀ t, j ≤ t → t < m → lt' d[m]! d[t]! = true) ∧ Hid (RowAt EV W g cur e d wr) ∧ Hid (BoxIs wr W.heap.size [.func (.func gl) #[] lb, .func (.func sf) #[] sb])) (fun vi vj _ => (intOf vj).toNat - (intOf vi).toNat)
  case atStart => exact ⟨a, m, rfl, rfl, Nat.le_refl _, by omega, Nat.le_refl _, Lib.hid (fun t h1 h2 => by omega), Lib.hid (fun t h1 h2 => by omega), Lib.hid (HR.out.self.below (by go_grown)), Lib.hid (BoxIs.new W [.func (.func gl) #[] lb, .func (.func sf) #[] sb] _)⟩
  case round =>
    obtain ⟨i, j, rfl, rfl, hai, hij, hjm, HLo, HHi, HRw, HB⟩ := hrel
    clear he1 hw0 hne1 hne2
    have hbx0 := HB.out.2.1 0
    have hbx1 := HB.out.2.1 1
    by_cases hlt : i < j
    · obtain ⟨h, hh⟩ : ∃ h : Nat, (i + j) / 2 = h := ⟨_, rfl⟩
      have hh' : ((i : Int) + (j : Int)) / 2 = (h : Int) := by omega
      have hih : i ≤ h := by omega
      have hhj : h < j := by omega
      clear hh
      have hl := HO.out.L wr d (HR.out.trans HRw.out) HP.out m h (by omega) (by omega)
      have hX := HM.out.X h m (by omega) (by omega) (Nat.le_refl _) (by omega)
      cases hlv : lt d[m]! d[h]!
      · rw [hlv] at hl
        have HLo2 : Hid (∀ t, a ≤ t → t < h + 1 → lt' d[t]! d[m]! = true) := Lib.hid (fun t h1 h2 => by
          rcases Nat.lt_or_ge t h with c | c
          · exact HO.out.tr _ _ _ (HM.out.L t h h1 c (by omega)) (hX.2 hlv)
          · obtain rfl : t = h := by omega
            exact hX.2 hlv)
        clear hX hlv
        go_wp2_with (go_at_fn gl; refine hl.mono ?_; rintro x w2 ⟨rfl, hb2⟩)
        have HR2 := Lib.hid (HRw.out.below hb2)
        have HB2 := Lib.hid (HB.out.below hb2)
        clear hl hb2 hbx0 hbx1
        go_wp2
        exact ⟨⟨h + 1, j, by go_num, rfl, by omega, by omega, hjm, HLo2, HHi, HR2, HB2⟩, by simp [intOf]; omega⟩
      · rw [hlv] at hl
        have HHi2 : Hid (∀ t, h ≤ t → t < m → lt' d[m]! d[t]! = true) := Lib.hid (fun t h1 h2 => by
          rcases Nat.lt_or_ge h t with c | c
          · exact HO.out.tr _ _ _ (hX.1 hlv) (HM.out.L h t (by omega) c h2)
          · obtain rfl : t = h := by omega
            exact hX.1 hlv)
        clear hX hlv
        go_wp2_with (go_at_fn gl; refine hl.mono ?_; rintro x w2 ⟨rfl, hb2⟩)
        have HR2 := Lib.hid (HRw.out.below hb2)
        have HB2 := Lib.hid (HB.out.below hb2)
        clear hl hb2 hbx0 hbx1
        go_wp2
        exact ⟨⟨i, h, rfl, rfl, hai, hih, by omega, HLo, HHi2, HR2, HB2⟩, by simp [intOf]; omega⟩
    · obtain rfl : i = j := by omega
      clear hbx0 hbx1
      go_wp2
      go_loopw [15] (fun vk wr => ∃ (k : Nat) (dk : Array Int), vk = .int .i64 k ∧ i ≤ k ∧ k ≤ m ∧ Hid (IxTo (rotIx k m (m + 1)) d dk) ∧ Hid (PermIn a (m + 1) d dk) ∧ Hid (RowAt EV W g cur e dk wr) ∧ Hid (BoxIs wr W.heap.size [.func (.func gl) #[] lb, .func (.func sf) #[] sb])) (fun vk _ => (intOf vk).toNat)
      case atStart => exact ⟨m, d, rfl, hjm, Nat.le_refl _, Lib.hid (rot_id d (.inl rfl) (by omega) (by omega)), Lib.hid (Go.Sort.permIn_refl _ _ _), HRw, HB⟩
      case round =>
        obtain ⟨k, dk, rfl, hik, hkm, HX, HPk, HRk, HBk⟩ := hrel
        have hbx1 := HBk.out.2.1 1
        by_cases hlt2 : i < k
        · have hdk : dk.size = n := HX.out.1.trans HD.out
          have hs := HO.out.S wr dk (HR.out.trans HRk.out) hdk k (k - 1) (by omega) (by omega)
          rw [show (((k - 1 : Nat)) : Int) = (k : Int) - 1 by omega] at hs
          have HR2 := Lib.hid (HRk.out.swap (i := k) (j := k - 1) (by omega) (by omega))
          have HX2 := Lib.hid (rot_down HX.out (by omega) hkm (by rw [HD.out]; omega))
          have HP2 : Hid (PermIn a (m + 1) d (swp dk k (k - 1))) := Lib.hid (Go.Sort.permIn_trans _ _ _ _ _ HPk.out (Go.Sort.swp_permIn dk a (m + 1) k (k - 1) (by omega) (by omega) (by omega) (by omega) (by omega)))
          have HB2 := Lib.hid ((HBk.out.set_other (c := g) (by omega) k (EV.enc dk[k - 1]!)).set_other (c := g) (by omega) (k - 1) (EV.enc dk[k]!))
          have hd1 : decide ((k : Int) > (i : Int)) = true := decide_eq_true (by omega)
          have hwk : IntKind.i64.wrap ((k : Int) - 1) = (k : Int) - 1 := IntWalk.i64_in _ (by omega)
          clear hdk
          go_wp2
          exact ⟨⟨k - 1, _, by go_num, by omega, by omega, HX2, HP2, HR2, HB2⟩, by simp [intOf]; omega⟩
        · obtain rfl : i = k := by omega
          have HS : Hid (Srt lt' a (m + 1) dk) := Lib.hid (merge2_srt HM.out HX.out hai hjm HLo.out HHi.out)
          go_wp2
          (try simp only [Exit.inBlock, Exit.then])
          refine bodyPost_ret (results_none rfl _ _ _) rfl ?_
          exact ⟨rfl, dk, HRk.out, HPk.out, HS.out⟩
end Go.Proofs.Ythdejhningghcaa
