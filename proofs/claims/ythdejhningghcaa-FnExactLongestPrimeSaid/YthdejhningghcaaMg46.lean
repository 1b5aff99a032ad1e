import Derived.Test.YthdejhningghcaaMg45
import Derived.Test.YthdejhningghcaaMg41
/- StableSx: the library's stable sort, walked: insertion, blocks, the whole. -/
namespace Go.Proofs.Ythdejhningghcaa
open Go.ChangeShapes Go.WideShapes Go.ChangeAt Go.RowKit
open Go.Sort (swp PermIn)
variable {EV : EncV}

theorem symMerge_all {w0 : World} {g n : Nat} {cur : Array Value} {e : TypeId} {gl : Nat} {lb : Array Value} {sf : Nat} {sb : Array Value} {lt lt' : Int → Int → Bool} {d0 : Array Int} (hO : SortOn EV w0 g n cur e gl lb sf sb lt lt' d0) :
    ∀ (N a m b : Nat) (d : Array Int) (W : World), b - a < N → RowAt EV w0 g cur e d W → PermIn 0 n d0 d → MPre lt lt' a m b d → a < m → m < b → b ≤ n → Calls Try.prog 67 #[.agg #[.func (.func gl) #[] lb, .func (.func sf) #[] sb], .int .i64 a, .int .i64 m, .int .i64 b] W (fun x W' => x = .returned (.tuple #[]) ∧ ∃ d', RowAt EV W g cur e d' W' ∧ PermIn a b d d' ∧ Srt lt' a b d')
  | 0, _, _, _, _, _, h, _, _, _, _, _, _ => absurd h (Nat.not_lt_zero _)
  | N + 1, a, m, b, d, W, h, hR, hp, hM, ham, hmb, hb => by
    by_cases h1 : m = a + 1
    · subst h1
      have := symMerge1 hO a b d W hR hp hM hmb hb
      rwa [show ((a : Int) + 1) = ((a + 1 : Nat) : Int) by omega] at this
    · by_cases h2 : b = m + 1
      · subst h2
        have := symMerge2 hO a m d W hR hp hM (by omega) hb
        rwa [show ((m : Int) + 1) = ((m + 1 : Nat) : Int) by omega] at this
      · exact symMergeG hO a m b d W hR hp hM (by omega) (by omega) hb (fun a' m' b' d' W' h3 h4 h5 h6 h7 h8 h9 => symMerge_all hO N a' m' b' d' W' (by omega) h4 h5 h6 h7 h8 h9)
theorem symMerge_c {w0 : World} {g n : Nat} {cur : Array Value} {e : TypeId} {gl : Nat} {lb : Array Value} {sf : Nat} {sb : Array Value} {lt lt' : Int → Int → Bool} {d0 : Array Int} (hO : SortOn EV w0 g n cur e gl lb sf sb lt lt' d0)
    (a m b : Nat) (d : Array Int) (W : World) (hR : RowAt EV w0 g cur e d W) (hp : PermIn 0 n d0 d) (hM : MPre lt lt' a m b d) (ham : a < m) (hmb : m < b) (hb : b ≤ n) :
    Calls Try.prog 67 #[.agg #[.func (.func gl) #[] lb, .func (.func sf) #[] sb], .int .i64 a, .int .i64 m, .int .i64 b] W (fun x W' => x = .returned (.tuple #[]) ∧ ∃ d', RowAt EV W g cur e d' W' ∧ PermIn a b d d' ∧ Srt lt' a b d') :=
  symMerge_all hO (b - a + 1) a m b d W (by omega) hR hp hM ham hmb hb
set_option maxHeartbeats 4000000 in
theorem insertion_c {w0 : World} {g n : Nat} {cur : Array Value} {e : TypeId} {gl : Nat} {lb : Array Value} {sf : Nat} {sb : Array Value} {lt lt' : Int → Int → Bool} {d0 : Array Int} (hO : SortOn EV w0 g n cur e gl lb sf sb lt lt' d0)
    (a b : Nat) (d : Array Int) (W : World) (hR : RowAt EV w0 g cur e d W) (hp : PermIn 0 n d0 d) (hB : Base lt lt' d a b) (hab : a ≤ b) (hb : b ≤ n) :
    Calls Try.prog 66 #[.agg #[.func (.func gl) #[] lb, .func (.func sf) #[] sb], .int .i64 a, .int .i64 b] W (fun x W' => x = .returned (.tuple #[]) ∧ ∃ d', RowAt EV W g cur e d' W' ∧ PermIn a b d d' ∧ Srt lt' a b d') := by
  have hn := hO.hn
  have eg := hO.eg
  have HO := Lib.hid hO
  have HD : Hid (d.size = n) := Lib.hid (hp.1.trans hO.d0n)
  have hg := hR.lt
  have HR := Lib.hid hR
  have HP := Lib.hid hp
  have HBs := Lib.hid hB
  clear hO hR hp hB
  go_enter Try.func66, Try.ntmps66
  go_wp2
  go_loopw [6] (fun vi wr => ∃ (i : Nat) (dk : Array Int), vi = .int .i64 i ∧ a < i ∧ (i ≤ b ∨ i = a + 1) ∧ Hid (i ≤ b → PermIn a i d dk ∧ Srt lt' a i dk) ∧ Hid (b < i → dk = d) ∧ Hid (RowAt EV W g cur e dk wr) ∧ Hid (BoxIs wr W.heap.size [.func (.func gl) #[] lb, .func (.func sf) #[] sb])) (fun vi _ => b + 1 - (intOf vi).toNat)
  case atStart => exact ⟨a + 1, d, by go_num, Nat.lt_succ_self _, .inr rfl, Lib.hid (fun _ => ⟨Go.Sort.permIn_refl _ _ _, fun i j h1 h2 h3 => by omega⟩), Lib.hid (fun _ => rfl), Lib.hid (HR.out.self.below (by go_grown)), Lib.hid (BoxIs.new W [.func (.func gl) #[] lb, .func (.func sf) #[] sb] _)⟩
  case round =>
    obtain ⟨i, dk, rfl, hai, hib, HI, HE, HRk, HB⟩ := hrel
    by_cases hlt : i < b
    · have HI2 := Lib.hid (HI.out (by omega))
      have HA := Lib.hid (insAt_start HI2.out.1 HI2.out.2 (by rw [HD.out]; omega))
      clear HI HE HI2
      go_wp2
      go_loopw [7] (fun vj wr => ∃ (j : Nat) (dj : Array Int), vj = .int .i64 j ∧ a ≤ j ∧ j ≤ i ∧ Hid (InsAt lt' d a i j dj) ∧ Hid (RowAt EV W g cur e dj wr) ∧ Hid (BoxIs wr W.heap.size [.func (.func gl) #[] lb, .func (.func sf) #[] sb])) (fun vj _ => (intOf vj).toNat)
      case atStart => exact ⟨i, dk, rfl, by omega, Nat.le_refl _, HA, HRk, HB⟩
      case round =>
        obtain ⟨j, dj, rfl, haj, hji, HJ, HRj, HBj⟩ := hrel
        have hbx0 := HBj.out.2.1 0
        have hbx1 := HBj.out.2.1 1
        by_cases hja : a < j
        · have hl := HO.out.L wr dj (HR.out.trans HRj.out) (Go.Sort.permIn_trans _ _ _ _ _ HP.out (Go.Sort.permIn_mono _ _ a (i + 1) 0 n (Nat.zero_le _) (by omega) (by rw [HD.out]; exact Nat.le_refl _) HJ.out.P)) j (j - 1) (by omega) (by omega)
          rw [show (((j - 1 : Nat)) : Int) = (j : Int) - 1 by omega] at hl
          cases hlv : lt dj[j]! dj[j - 1]!
          · rw [hlv] at hl
            have HS : Hid (Srt lt' a (i + 1) dj) := Lib.hid (insAt_stop HJ.out HO.out.tr HBs.out hlt haj hji (.inr hlv))
            clear hlv
            go_wp2_with (go_at_fn gl; refine hl.mono ?_; rintro x w2 ⟨rfl, hb2⟩)
            have HR2 := Lib.hid (HRj.out.below hb2)
            have HB2 := Lib.hid (HBj.out.below hb2)
            clear hl hb2 hbx0 hbx1
            go_wp2
            exact ⟨⟨i + 1, dj, by go_num, by omega, .inl hlt, Lib.hid (fun _ => ⟨HJ.out.P, HS.out⟩), Lib.hid (fun h => by omega), HR2, HB2⟩, by simp [intOf]; omega⟩
          · rw [hlv] at hl
            have HJ2 := Lib.hid (insAt_step HJ.out HBs.out hlt hja hji (by rw [HD.out]; omega) hlv)
            clear hlv
            have hdj : dj.size = n := HJ.out.P.1.trans HD.out
            have hwj : IntKind.i64.wrap ((j : Int) - 1) = (j : Int) - 1 := IntWalk.i64_in _ (by omega)
            have HSw : Hid (∀ W2, RowAt EV w0 g cur e dj W2 → (callFunc sf (#[.int .i64 j, .int .i64 ((j : Int) - 1)] ++ sb)).run Try.prog W2 = .ok (.value (.tuple #[])) ((W2.setCell ⟨g, j, none⟩ (EV.enc dj[j - 1]!)).setCell ⟨g, j - 1, none⟩ (EV.enc dj[j]!))) := Lib.hid (fun W2 h2 => by
              have hs := HO.out.S W2 dj h2 hdj j (j - 1) (by omega) (by omega)
              rwa [show (((j - 1 : Nat)) : Int) = (j : Int) - 1 by omega] at hs)
            go_wp2_with (go_at_fn gl; refine hl.mono ?_; rintro x w2 ⟨rfl, hb2⟩; have HR2 := Lib.hid (HRj.out.below hb2); have HB2 := Lib.hid (HBj.out.below hb2); have hy1 := HB2.out.2.1 1; have hs := HSw.out w2 (HR.out.trans HR2.out); clear hl hb2)
            have HR3 := Lib.hid (HR2.out.swap (i := j) (j := j - 1) (by omega) (by omega))
            have HB3 := Lib.hid ((HB2.out.set_other (c := g) (by omega) j (EV.enc dj[j - 1]!)).set_other (c := g) (by omega) (j - 1) (EV.enc dj[j]!))
            clear hbx0 hbx1 hdj
            exact ⟨⟨j - 1, _, by go_num, by omega, by omega, HJ2, HR3, HB3⟩, by simp [intOf]; omega⟩
        · obtain rfl : j = a := by omega
          have HS : Hid (Srt lt' j (i + 1) dj) := Lib.hid (insAt_stop HJ.out HO.out.tr HBs.out hlt haj hji (.inl rfl))
          clear hbx0 hbx1
          go_wp2
          exact ⟨⟨i + 1, dj, by go_num, by omega, .inl hlt, Lib.hid (fun _ => ⟨HJ.out.P, HS.out⟩), Lib.hid (fun h => by omega), HRj, HBj⟩, by simp [intOf]; omega⟩
    · have HF : Hid (∃ d', RowAt EV W g cur e d' wr ∧ PermIn a b d d' ∧ Srt lt' a b d') := Lib.hid (by
        rcases Nat.lt_or_ge b i with c | c
        · have := HE.out c
          subst this
          exact ⟨dk, HRk.out, Go.Sort.permIn_refl _ _ _, fun p q h1 h2 h3 => by omega⟩
        · obtain rfl : i = b := by omega
          exact ⟨dk, HRk.out, (HI.out (Nat.le_refl _)).1, (HI.out (Nat.le_refl _)).2⟩)
      go_wp2
      (try simp only [Exit.inBlock, Exit.then])
      first | (refine bodyPost_ret (results_none rfl _ _ _) rfl ?_) | (refine bodyPost_end (results_none rfl _ _ _) rfl ?_)
      exact ⟨rfl, HF.out⟩
set_option maxRecDepth 100000 in
set_option maxHeartbeats 8000000 in
theorem stable_c {w0 : World} {g n : Nat} {cur : Array Value} {e : TypeId} {gl : Nat} {lb : Array Value} {sf : Nat} {sb : Array Value} {lt lt' : Int → Int → Bool} {d0 : Array Int} (hO : SortOn EV w0 g n cur e gl lb sf sb lt lt' d0)
    (W : World) (hR : RowAt EV w0 g cur e d0 W) (hB : Base lt lt' d0 0 n) :
    Calls Try.prog 43 #[.agg #[.func (.func gl) #[] lb, .func (.func sf) #[] sb], .int .i64 n] W (fun x W' => x = .returned (.tuple #[]) ∧ ∃ d', RowAt EV W g cur e d' W' ∧ PermIn 0 n d0 d' ∧ Srt lt' 0 n d') := by
  have hn := hO.hn
  have HO := Lib.hid hO
  have hg := hR.lt
  have HR := Lib.hid hR
  have HBs := Lib.hid hB
  have HD0 : Hid (d0.size = n) := Lib.hid hO.d0n
  clear hO hR hB
  go_enter Try.func43, Try.ntmps43
  go_wp2
  go_loopw [5, 6] (fun va vb wr => ∃ (a : Nat) (dk : Array Int), va = .int .i64 a ∧ vb = .int .i64 ((a : Int) + 20) ∧ a ≤ n ∧ Hid (PermIn 0 n d0 dk) ∧ Hid (∀ t, a ≤ t → dk[t]! = d0[t]!) ∧ Hid (Front lt' d0 n 20 dk a) ∧ Hid (RowAt EV W g cur e dk wr) ∧ Hid (BoxIs wr W.heap.size [.func (.func gl) #[] lb, .func (.func sf) #[] sb])) (fun va _ _ => n - (intOf va).toNat)
  case atStart => exact ⟨0, d0, rfl, by go_num, Nat.zero_le _, Lib.hid (Go.Sort.permIn_refl _ _ _), Lib.hid (fun _ _ => rfl), Lib.hid (front_zero _ _), Lib.hid (HR.out.self.below (by go_grown)), Lib.hid (BoxIs.new W [.func (.func gl) #[] lb, .func (.func sf) #[] sb] _)⟩
  case round =>
    obtain ⟨a, dk, rfl, rfl, han, HPk, HEk, HFk, HRk, HB⟩ := hrel
    have hbx0 := HB.out.2.1 0
    have hbx1 := HB.out.2.1 1
    have HDk : Hid (dk.size = n) := Lib.hid (HPk.out.1.trans HD0.out)
    have HBase : Hid (∀ b, b ≤ n → Base lt lt' dk a b) := Lib.hid (fun b hb i j h1 h2 h3 => by rw [HEk.out i h1, HEk.out j (by omega)]; exact HBs.out i j (Nat.zero_le _) h2 (by omega))
    by_cases hlt : a + 20 ≤ n
    · have hi := insertion_c HO.out a (a + 20) dk wr (HR.out.trans HRk.out) HPk.out (HBase.out _ hlt) (by omega) hlt
      rw [show ((a + 20 : Nat) : Int) = (a : Int) + 20 by omega] at hi
      have HI := Lib.hid hi
      clear hi
      go_wp2_with fail
      refine HI.out.mono ?_
      rintro x w2 ⟨rfl, d2, hR2, hP2, hS2⟩
      have HR2 := Lib.hid (HRk.out.trans hR2)
      have HB2 := Lib.hid (HB.out.row hR2 (by omega))
      have HP2 : Hid (PermIn 0 n d0 d2) := Lib.hid (Go.Sort.permIn_trans _ _ _ _ _ HPk.out (Go.Sort.permIn_mono _ _ a (a + 20) 0 n (Nat.zero_le _) hlt (by rw [HDk.out]; exact Nat.le_refl _) hP2))
      have HE2 : Hid (∀ t, a + 20 ≤ t → d2[t]! = d0[t]!) := Lib.hid (fun t ht => by rw [hP2.2.1 t (.inr ht), HEk.out t (by omega)])
      have HF2 : Hid (Front lt' d0 n 20 d2 (a + 20)) := Lib.hid (front_more HFk.out hP2 (blk_fresh HEk.out (by rw [HDk.out]; exact hlt) hP2 hS2) (by omega) hlt)
      clear HI hR2 hP2 hS2 hbx0 hbx1 HPk HEk HFk HRk HB HBase HDk
      go_wp2
      exact ⟨⟨a + 20, d2, by go_num, by go_num, hlt, HP2, HE2, HF2, HR2, HB2⟩, by simp [intOf]; omega⟩
    · have HI := Lib.hid (insertion_c HO.out a n dk wr (HR.out.trans HRk.out) HPk.out (HBase.out _ (Nat.le_refl _)) han (Nat.le_refl _))
      go_wp2_with fail
      refine HI.out.mono ?_
      rintro x w2 ⟨rfl, d2, hR2, hP2, hS2⟩
      have HR2 := Lib.hid (HRk.out.trans hR2)
      have HB2 := Lib.hid (HB.out.row hR2 (by omega))
      have HP2 : Hid (PermIn 0 n d0 d2) := Lib.hid (Go.Sort.permIn_trans _ _ _ _ _ HPk.out (Go.Sort.permIn_mono _ _ a n 0 n (Nat.zero_le _) (Nat.le_refl _) (by rw [HDk.out]; exact Nat.le_refl _) hP2))
      have HT2 : Hid (Tiles lt' d0 n 20 d2 0) := Lib.hid (HFk.out d2 (fun t ht => hP2.2.1 t (.inl ht)) (by
        rcases Nat.lt_or_ge a n with c | c
        · refine .more c ?_ (.done (by omega))
          rw [Nat.min_eq_right (by omega)]
          exact blk_fresh HEk.out (by rw [HDk.out]; exact Nat.le_refl _) hP2 hS2
        · exact .done c))
      clear HI hR2 hP2 hS2 hbx0 hbx1 HPk HEk HFk HRk HB HBase HDk
      go_wp2
      go_loopw [4] (fun vs wr => ∃ (s : Nat) (dk : Array Int), vs = .int .i64 s ∧ 0 < s ∧ s ≤ 2 * n + 20 ∧ Hid (PermIn 0 n d0 dk) ∧ Hid (Tiles lt' d0 n s dk 0) ∧ Hid (RowAt EV W g cur e dk wr) ∧ Hid (BoxIs wr W.heap.size [.func (.func gl) #[] lb, .func (.func sf) #[] sb])) (fun vs _ => 2 * n + 20 - (intOf vs).toNat)
      case atStart => exact ⟨20, d2, rfl, by omega, by omega, HP2, HT2, HR2, HB2⟩
      case round =>
        obtain ⟨s, dk, rfl, hs0, hs2, HPk, HTk, HRk, HB⟩ := hrel
        by_cases hsn : s < n
        · generalize wr = W1 at *
          go_wp2
          go_loopw [5, 6] (fun va vb wr => ∃ (a : Nat) (dj : Array Int), va = .int .i64 a ∧ vb = .int .i64 ((a : Int) + 2 * (s : Int)) ∧ a ≤ n ∧ Hid (PermIn 0 n d0 dj) ∧ Hid (Tiles lt' d0 n s dj a) ∧ Hid (Front lt' d0 n (2 * s) dj a) ∧ Hid (RowAt EV W g cur e dj wr) ∧ Hid (BoxIs wr W.heap.size [.func (.func gl) #[] lb, .func (.func sf) #[] sb])) (fun va _ _ => n - (intOf va).toNat)
          case atStart => exact ⟨0, dk, rfl, by go_num, Nat.zero_le _, HPk, HTk, Lib.hid (front_zero _ _), HRk, HB⟩
          case round =>
            obtain ⟨a, dj, rfl, rfl, han, HPj, HTj, HFj, HRj, HBj⟩ := hrel
            have hbx0 := HBj.out.2.1 0
            have hbx1 := HBj.out.2.1 1
            have HDj : Hid (dj.size = n) := Lib.hid (HPj.out.1.trans HD0.out)
            by_cases hlt2 : a + 2 * s ≤ n
            · have h1 := HTj.out.head (by omega)
              have h2 := h1.2.head (by omega)
              rw [Nat.min_eq_left (by omega)] at h1
              rw [show a + s + s = a + 2 * s by omega, Nat.min_eq_left (by omega)] at h2
              have hi := symMerge_c HO.out a (a + s) (a + 2 * s) dj wr (HR.out.trans HRj.out) HPj.out (blk_mpre h1.1 h2.1 (by rw [HDj.out]; exact hlt2) (by omega) (by omega) HBs.out hlt2) (by omega) (by omega) hlt2
              rw [show ((a + s : Nat) : Int) = (a : Int) + (s : Int) by omega, show ((a + 2 * s : Nat) : Int) = (a : Int) + 2 * (s : Int) by omega] at hi
              have HI := Lib.hid hi
              have HB1 := Lib.hid h1.1
              have HB2 := Lib.hid h2.1
              have HT2 := Lib.hid h2.2
              clear hi h1 h2
              go_wp2_with fail
              refine HI.out.mono ?_
              rintro x w3 ⟨rfl, d3, hR3, hP3, hS3⟩
              have HR3 := Lib.hid (HRj.out.trans hR3)
              have HBx := Lib.hid (HBj.out.row hR3 (by omega))
              have HP3 : Hid (PermIn 0 n d0 d3) := Lib.hid (Go.Sort.permIn_trans _ _ _ _ _ HPj.out (Go.Sort.permIn_mono _ _ a (a + 2 * s) 0 n (Nat.zero_le _) hlt2 (by rw [HDj.out]; exact Nat.le_refl _) hP3))
              have HT3 : Hid (Tiles lt' d0 n s d3 (a + 2 * s)) := Lib.hid (HT2.out.congr fun t ht => hP3.2.1 t (.inr ht))
              have HF3 : Hid (Front lt' d0 n (2 * s) d3 (a + 2 * s)) := Lib.hid (front_more HFj.out hP3 (blk_merge HB1.out HB2.out (by rw [HDj.out]; exact hlt2) (by omega) (by omega) hP3 hS3) (by omega) hlt2)
              clear HI hR3 hP3 hS3 hbx0 hbx1 HPj HTj HFj HRj HBj HB1 HB2 HT2 HDj
              go_wp2
              exact ⟨⟨a + 2 * s, d3, by go_num, by go_num, hlt2, HP3, HT3, HF3, HR3, HBx⟩, by simp [intOf]; omega⟩
            · by_cases hlt3 : a + s < n
              · have h1 := HTj.out.head (by omega)
                have h2 := h1.2.head (by omega)
                rw [Nat.min_eq_left (by omega)] at h1
                rw [show a + s + s = a + 2 * s by omega, Nat.min_eq_right (by omega)] at h2
                have hi := symMerge_c HO.out a (a + s) n dj wr (HR.out.trans HRj.out) HPj.out (blk_mpre h1.1 h2.1 (by rw [HDj.out]; exact Nat.le_refl _) (by omega) (by omega) HBs.out (Nat.le_refl _)) (by omega) (by omega) (Nat.le_refl _)
                rw [show ((a + s : Nat) : Int) = (a : Int) + (s : Int) by omega] at hi
                have HI := Lib.hid hi
                have HB1 := Lib.hid h1.1
                have HB2 := Lib.hid h2.1
                clear hi h1 h2
                go_wp2_with fail
                refine HI.out.mono ?_
                rintro x w3 ⟨rfl, d3, hR3, hP3, hS3⟩
                have HR3 := Lib.hid (HRj.out.trans hR3)
                have HBx := Lib.hid (HBj.out.row hR3 (by omega))
                have HP3 : Hid (PermIn 0 n d0 d3) := Lib.hid (Go.Sort.permIn_trans _ _ _ _ _ HPj.out (Go.Sort.permIn_mono _ _ a n 0 n (Nat.zero_le _) (Nat.le_refl _) (by rw [HDj.out]; exact Nat.le_refl _) hP3))
                have HT3 : Hid (Tiles lt' d0 n (s * 2) d3 0) := Lib.hid (by
                  rw [Nat.mul_comm s 2]
                  refine HFj.out d3 (fun t ht => hP3.2.1 t (.inl ht)) (.more (by omega) ?_ (.done (by omega)))
                  rw [Nat.min_eq_right (by omega)]
                  exact blk_merge HB1.out HB2.out (by rw [HDj.out]; exact Nat.le_refl _) (by omega) (by omega) hP3 hS3)
                clear HI hR3 hP3 hS3 hbx0 hbx1 HPj HTj HFj HRj HBj HB1 HB2 HDj
                go_wp2
                exact ⟨⟨s * 2, d3, by go_num, by omega, by omega, HP3, HT3, HR3, HBx⟩, by simp [intOf]; omega⟩
              · have HT3 : Hid (Tiles lt' d0 n (s * 2) dj 0) := Lib.hid (by
                  rw [Nat.mul_comm s 2]
                  refine HFj.out dj (fun _ _ => rfl) ?_
                  rcases Nat.lt_or_ge a n with c | c
                  · have h1 := (HTj.out.head c).1
                    rw [Nat.min_eq_right (by omega)] at h1
                    refine .more c ?_ (.done (by omega))
                    rw [Nat.min_eq_right (by omega)]
                    exact h1
                  · exact .done c)
                clear hbx0 hbx1 HTj HFj HDj
                go_wp2
                exact ⟨⟨s * 2, dj, by go_num, by omega, by omega, HPj, HT3, HRj, HBj⟩, by simp [intOf]; omega⟩
        · have HS : Hid (Srt lt' 0 n dk) := Lib.hid (by
            rcases Nat.eq_zero_or_pos n with c | c
            · intro i j h1 h2 h3; omega
            · have := (HTk.out.head c).1.S
              rwa [Nat.zero_add, Nat.min_eq_right (by omega)] at this)
          go_wp2
          (try simp only [Exit.inBlock, Exit.then])
          first | (refine bodyPost_ret (results_none rfl _ _ _) rfl ?_) | (refine bodyPost_end (results_none rfl _ _ _) rfl ?_)
          exact ⟨rfl, dk, HRk.out, HPk.out, HS.out⟩
end Go.Proofs.Ythdejhningghcaa
