import Derived.Test.YthdejhningghcaaMg21
import Derived.Test.YthdejhningghcaaMg11
import Derived.Test.YthdejhningghcaaMg22
import Derived.Test.YthdejhningghcaaMg12
import Derived.Laws.BitsLemmas
/- PrA: states of patterns, by the package impl. -/
namespace Go.Proofs.Ythdejhningghcaa
open Go.ChangeShapes Go.WideShapes Go.ChangeAt Go.RowKit

theorem nth_landsL (p : List Int) (k : Nat) (hk : k < p.length) : nth (landsL p) k = land p k := by
  unfold landsL
  rw [nth_map' _ _ _ (by simpa using hk), nth_eq _ _ (by simpa using hk)]; simp
theorem landsFrom_c (v : Value) (p : List Int) (m : Nat) (w : World) (hv : IntsAt w v p) (ho : okPat p = true) (hm : m ≤ 1000) : Calls Try.prog 85 #[v, .int .i64 m] w (Gives (.int .i64 ((m : Int) - (fromV p m : Int))) w) := by
  have HA := Lib.hid hv
  have HQ := Lib.hid (landings_c v p w hv (okPat_throws ho))
  have HPe := Lib.hid (fun W x => period_c v p W x)
  obtain ⟨h1, h2, h3⟩ := ok_in ho
  have HN := Lib.hid (fun k (hk : k < p.length) => mem_nth hk)
  have H15 := Lib.hid h3
  have Ho := Lib.hid ho
  obtain ⟨a, n, cap, rfl, hn, -, -, hc⟩ := hv
  have Hc := Lib.hid hc
  have Hn := Lib.hid hn
  have hn1 : 1 ≤ n := by omega
  have hn12 : n ≤ 12 := by omega
  have HM := Lib.hid (fun W => modulo_c (m : Int) (n : Int) W (by omega) (by omega))
  clear hc hn ho h1 h2 h3
  go_enter Try.func85, Try.ntmps85
  go_wp2_with fail
  refine HQ.out.mono ?_
  rintro e w1 ⟨la, ln, lc, rfl, hol, hb1⟩
  have hll := OwnInts.at hol
  obtain ⟨_, _, _, he, hln, -, -, hlc⟩ := hll
  injection he with e1 e2 e3
  subst e1 e2 e3
  replace hln : ln = n := by rw [hln, Hn.out]; unfold landsL; simp
  subst hln
  have Hlc := Lib.hid hlc
  clear hol hlc HQ
  go_wp2
  go_loopw [10] (fun i wr => ∃ k : Nat, i = .int .i64 k ∧ k ≤ ln ∧ Hid (∀ j, j < k → land p j ≠ (m : Int) % (ln : Int)) ∧ Below w1.heap.size w1 wr) (fun i _ => ln - (intOf i).toNat)
  case atStart => exact ⟨0, rfl, Nat.zero_le _, Lib.hid (fun j hj => absurd hj (Nat.not_lt_zero _)), Below.refl _ _⟩
  case round =>
    obtain ⟨k, rfl, hk, HNo, hb⟩ := hrel
    have hbw := bthen hb1 hb
    by_cases hlt : k < ln
    · have hkp : k < p.length := by rw [← Hn.out]; exact hlt
      obtain ⟨b, o, rfl, hbs, c0⟩ := (Hlc.out.below hb) k (by unfold landsL; simp; exact hkp)
      rw [nth_landsL p k hkp] at c0
      have HLd : Hid (land p k = (((k + thr p k) % p.length : Nat) : Int)) := Lib.hid (land_thr (fun x hx => (H15.out x hx).1) hkp)
      have HPer := Lib.hid (HPe.out wr (HA.out.below hbw))
      rw [← Hn.out] at HPer
      have Hkp := Lib.hid hkp
      generalize hld : land p k = L at *
      have Hld := Lib.hid hld
      clear hld hkp
      go_wp2_with fail
      refine HPer.out.mono ?_
      rintro e w2 ⟨rfl, hb2⟩
      have hbk := bthen hb hb2
      clear HPer c0
      go_wp2_with fail
      refine (HM.out w2).mono ?_
      rintro e w3 ⟨rfl, hb3⟩
      replace hbk := bthen hbk hb3
      clear hb2 hb3 hb
      by_cases hE : L = (m : Int) % (ln : Int)
      · have hEb : (L == (m : Int) % (ln : Int)) = true := beq_iff_eq.2 hE
        have HV : Hid ((m : Int) - (fromV p m : Int) = (m : Int) - nth p k) := Lib.hid (by
          have h5 : (k + thr p k) % p.length = m % p.length := by
            have h6 := HLd.out
            rw [hE, Hn.out, ← Int.natCast_emod] at h6
            exact (Int.ofNat_inj.1 h6).symm
          have h7 := from_eq Ho.out (f := k) rfl
          rw [fromV_mod p h5] at h7
          rw [h7]
          have h8 := (H15.out _ (HN.out k Hkp.out)).1
          unfold thr
          rw [Nat.mod_eq_of_lt Hkp.out, Int.toNat_of_nonneg h8])
        obtain ⟨b', o', rfl, hbs', c1⟩ := (Hc.out.below (bthen hb1 hbk)) k Hkp.out
        have hx := H15.out _ (HN.out k Hkp.out)
        generalize nth p k = x at *
        clear hE HNo HLd Hld hbw
        go_wp2
        go_ret
        exact Gives.int HV.out (bthen hb1 hbk)
      · have hEb : (L == (m : Int) % (ln : Int)) = false := beq_eq_false_iff_ne.2 hE
        have HNo2 : Hid (∀ j, j < k + 1 → land p j ≠ (m : Int) % (ln : Int)) := Lib.hid (fun j hj => by
          rcases Nat.lt_succ_iff_lt_or_eq.1 hj with h | rfl
          · exact HNo.out j h
          · rw [Hld.out]; exact hE)
        clear hE HNo HLd Hld hbw
        go_wp2
        exact ⟨⟨k + 1, by go_num, hlt, HNo2, hbk⟩, by simp [intOf]; omega⟩
    · obtain rfl : k = ln := by omega
      exfalso
      obtain ⟨i, hi, e, -⟩ := from_ex Ho.out m
      refine HNo.out i (by rw [Hn.out]; exact hi) ?_
      rw [land_thr (fun x hx => (H15.out x hx).1) hi, e, Hn.out, Int.natCast_emod]
theorem shl_one (t : Nat) (ht : t ≤ 40) : wrap64 (2 ^ t) = ((1 <<< t : Nat) : Int) := by
  rw [Nat.one_shiftLeft]
  have h : (2 : Nat) ^ t ≤ 2 ^ 40 := Nat.pow_le_pow_right (by decide) ht
  have h2 : ((2 : Int) ^ t) = ((2 ^ t : Nat) : Int) := by simp
  rw [h2]
  generalize 2 ^ t = x at *
  unfold wrap64; omega
theorem or_nat (a b : Nat) (ha : a < 2 ^ 50) (hb : b < 2 ^ 50) : bits .or .i64 (a : Int) (b : Int) = ((a ||| b : Nat) : Int) :=
  (bits_nat .i64 50 (by decide) (fun n h0 h1 => IntWalk.i64_in n (by omega)) a b ha hb).2
theorem maskTo_lt (p : List Int) (b h : Nat) : maskTo p b h < 2 ^ h := Nat.lt_pow_two_of_testBit _ (fun i hi => by rw [maskTo_bit, decide_eq_false (by omega)]; rfl)
theorem stateOf_c (v : Value) (p : List Int) (b h : Nat) (w : World) (hv : IntsAt w v p) (ho : okPat p = true) (hb12 : b ≤ 20) (hh : h ≤ 20) : Calls Try.prog 81 #[v, .int .i64 b, .int .i64 h] w (Gives (.agg #[.int .i64 h, .int .i64 (maskTo p b h : Nat)]) w) := by
  have HL := Lib.hid (fun (t : Nat) W (x : IntsAt W v p) (y : b + t ≤ 1000) => landsFrom_c v p (b + t) W x ho y)
  have HV := Lib.hid hv
  clear hv ho
  go_enter Try.func81, Try.ntmps81
  go_wp2
  go_loopw [13] (fun i wr => ∃ t : Nat, i = .int .i64 t ∧ t ≤ h ∧ Hid (BoxIs wr (w.heap.size + 1) [.int .i64 h, .int .i64 (maskTo p b t : Nat)]) ∧ Hid (BoxIs wr w.heap.size [.int .i64 0, .int .i64 0]) ∧ Below w.heap.size w wr) (fun i _ => h - (intOf i).toNat)
  case atStart => exact ⟨0, rfl, Nat.zero_le _, Lib.hid (BoxIs.new' (by simp) [.int .i64 h, .int .i64 0] _), Lib.hid ((BoxIs.new w [.int .i64 0, .int .i64 0] _).alloc _), by go_grown⟩
  case round =>
    obtain ⟨t, rfl, ht, HB, HB0, hb⟩ := hrel
    by_cases hlt : t < h
    · have hwa : IntKind.i64.wrap ((b : Int) + (t : Int)) = ((b + t : Nat) : Int) := by rw [IntWalk.i64_in _ (by omega)]; omega
      have HLt := Lib.hid (HL.out t wr (HV.out.below hb) (by omega))
      have hml := maskTo_lt p b t
      have hp20 : (2 : Nat) ^ t ≤ 2 ^ 20 := Nat.pow_le_pow_right (by decide) (by omega)
      have HM : Hid (maskTo p b (t + 1) = if t < fromV p (b + t) then maskTo p b t ||| (1 <<< t) else maskTo p b t) := Lib.hid (by
        show (if bitP p b t = true then _ else _) = _
        unfold bitP
        by_cases hq : t < fromV p (b + t)
        · rw [if_pos hq, decide_eq_true hq]; rfl
        · rw [if_neg hq, decide_eq_false hq]; rfl)
      have HOr : Hid (bits .or .i64 ((maskTo p b t : Nat) : Int) (wrap64 (2 ^ t)) = ((maskTo p b t ||| (1 <<< t) : Nat) : Int)) := Lib.hid (by rw [shl_one t (by omega)]; exact or_nat _ _ (by omega) (by rw [Nat.one_shiftLeft]; omega))
      generalize fromV p (b + t) = q at *
      generalize maskTo p b t = M at *
      clear hml hp20
      go_wp2_with fail
      refine HLt.out.mono ?_
      rintro e w2 ⟨rfl, hb2⟩
      replace HB := Lib.hid (HB.out.below hb2)
      replace HB0 := Lib.hid (HB0.out.below hb2)
      have hbk := bthen hb hb2
      have hsz := hbk.size
      have hs1 := HB.out.1
      have c1 : w2.cell? ⟨w.heap.size + 1, 1, none⟩ = some (.int .i64 (M : Int)) := HB.out.2.1 1
      have f1 : w2.frozen? ⟨w.heap.size + 1, 1, none⟩ = false := HB.out.2.2 1
      clear hb hb2 HLt
      by_cases hq : t < q
      · have hqI : (b : Int) + (t : Int) - (q : Int) < (b : Int) := by omega
        have HM2 : Hid (maskTo p b (t + 1) = M ||| (1 <<< t)) := Lib.hid (by rw [HM.out, if_pos hq])
        have hor := HOr.out
        have HB9 := Lib.hid (HB.out.set 1 (by simp) (.int .i64 ((M ||| (1 <<< t) : Nat) : Int)))
        have HB09 := Lib.hid (HB0.out.set_other (c := w.heap.size + 1) (by omega) 1 (.int .i64 ((M ||| (1 <<< t) : Nat) : Int)))
        have hb9 := hbk.setCell (p := ⟨w.heap.size + 1, 1, none⟩) (by show w.heap.size ≤ w.heap.size + 1; omega) (.int .i64 ((M ||| (1 <<< t) : Nat) : Int))
        clear HB HB0 HM HOr hbk
        rw [← HM2.out] at HB9 HB09 hb9 hor
        go_wp2
        exact ⟨⟨t + 1, by go_num, hlt, HB9, HB09, hb9⟩, by simp [intOf]; omega⟩
      · have hqI : ¬ (b : Int) + (t : Int) - (q : Int) < (b : Int) := by omega
        have HM2 : Hid (maskTo p b (t + 1) = M) := Lib.hid (by rw [HM.out, if_neg hq])
        rw [← HM2.out] at HB
        clear HM HOr c1 f1
        go_wp2
        exact ⟨⟨t + 1, by go_num, hlt, HB, HB0, hbk⟩, by simp [intOf]; omega⟩
    · obtain rfl : t = h := by omega
      have c0 : wr.cell? ⟨w.heap.size + 1, 0, none⟩ = some (.int .i64 (t : Int)) := HB.out.2.1 0
      have c1 : wr.cell? ⟨w.heap.size + 1, 1, none⟩ = some (.int .i64 ((maskTo p b t : Nat) : Int)) := HB.out.2.1 1
      have d0 : wr.cell? ⟨w.heap.size, 0, none⟩ = some (.int .i64 0) := HB0.out.2.1 0
      have d1 : wr.cell? ⟨w.heap.size, 1, none⟩ = some (.int .i64 0) := HB0.out.2.1 1
      have g0 := HB0.out.2.2
      have HB9 := Lib.hid ((HB0.out.set 0 (by simp) (.int .i64 (t : Int))).set 1 (by simp) (.int .i64 ((maskTo p b t : Nat) : Int)))
      have hb9 := (hb.setCell (p := ⟨w.heap.size, 0, none⟩) (Nat.le_refl _) (.int .i64 (t : Int))).setCell (p := ⟨w.heap.size, 1, none⟩) (Nat.le_refl _) (.int .i64 ((maskTo p b t : Nat) : Int))
      generalize maskTo p b t = M at *
      clear HB HB0 hb
      go_wp2
      have e4 := HB9.out.2.1
      refine bodyPost_ret (v := .agg #[.int .i64 t, .int .i64 M]) (by simp [results, Try.results81, go_sem, e4]) rfl ?_
      exact ⟨rfl, hb9⟩
/-- States in memory. -/
def cellsSt (ms : List (Int × Int)) : List Value := ms.flatMap fun s => [.int .i64 s.1, .int .i64 s.2]
def OwnSts (w : World) (base : Nat) (v : Value) (ms : List (Int × Int)) : Prop := w.ownsRow base 47 2 v ms.length (cellsSt ms)
theorem sts_cell {w : World} {base g n c i : Nat} {ms : List (Int × Int)} (h : OwnSts w base (.slice (some ⟨g, 0, none⟩) n c) ms) (hi : i < ms.length) : w.cell? ⟨g, i * 2, none⟩ = some (.int .i64 (nth ms i).1) ∧ w.cell? ⟨g, i * 2 + 1, none⟩ = some (.int .i64 (nth ms i).2) := by
  have hn : n = ms.length := by
    obtain ⟨_, _, e⟩ := slice_of_own h
    injection e
  subst hn
  have hk : ∀ j, j < 2 → w.cell? ⟨g, i * 2 + j, none⟩ = [Value.int .i64 (nth ms i).1, .int .i64 (nth ms i).2][j]? := fun j hj => by
    rw [World.ownsRow.cellAt h _ (by have := Nat.mul_le_mul_right 2 (show i + 1 ≤ ms.length from hi); omega)]
    exact flat_at (fun s : Int × Int => [Value.int .i64 s.1, .int .i64 s.2]) 2 (fun _ => rfl) ms i hi j hj
  exact ⟨hk 0 (by decide), hk 1 (by decide)⟩
theorem stInfo : (Try.prog.info? 47).map (fun i => (i.zero, i.size, i.bytes)) = some (some (.agg #[.int .i64 0, .int .i64 0]), 2, 16) := by kernel_rfl
/-- 'append(list, states..)'. -/
theorem wpList_app_sts {w : World} {ops : Array Oper} {rest : List Oper} {o : Oper} {a : Act} {Q : Exit → Act → World → Prop} (hgd : o.guard = none) (s x : Operand)
    (ho : o.op = .call { callee := .builtin .append, args := #[s, x], argTypes := #[48, 48] })
    (base : Nat) (v : Value) (ms : List (Int × Int)) (hs : a.eval s = v) (hown : OwnSts w base v ms)
    (A : Option Addr) (c : Nat) (m : Int × Int) (hx : a.eval x = .slice A 1 c) (hr : Reads w w.heap.size 2 A 1 [.int .i64 m.1, .int .i64 m.2])
    (hsz : ms.length ≤ 1000000) (hbase : base ≤ w.heap.size)
    (h : ∀ a' c' w', OwnSts w' base (.slice a' (ms.length + 1) c') (ms ++ [m]) → w.grownBy w' v.ownBlock → ((Value.slice a' (ms.length + 1) c').ownBlock = v.ownBlock ∨ (Value.slice a' (ms.length + 1) c').ownBlock = some w.heap.size) → wpList Try.prog ops Q rest (a.put o.dst (.slice a' (ms.length + 1) c')) w') :
    wpList Try.prog ops Q (o :: rest) a w := by
  obtain ⟨i0, hi, hz0, hz1, hz2⟩ := info_parts stInfo
  refine wpList_append_any w hgd s x 48 ho base 47 i0 _ 2 16 Try.underlying48 hi hz0 hz1 hz2 rfl (by decide) v ms.length (cellsSt ms) hs hown w.heap.size A 1 c _ hx hr (by intro z hz; simp at hz; rcases hz with rfl | rfl <;> rfl) (by unfold maxLen; omega) (by omega) hbase ?_
  intro v' w' hown' hg hb
  obtain ⟨a', c', rfl⟩ := slice_of_own hown'
  refine h a' c' w' ?_ hg hb
  unfold OwnSts cellsSt
  rw [List.length_append, List.flatMap_append]
  simpa [cellsSt] using hown'
theorem oneSt (w : World) (x y : Int) (t : TypeId) : Reads (w.alloc (.cells #[.int .i64 x, .int .i64 y] t)) (w.alloc (.cells #[.int .i64 x, .int .i64 y] t)).heap.size 2 (some ⟨w.heap.size, 0, none⟩) 1 [.int .i64 x, .int .i64 y] := by
  refine ⟨rfl, fun _ => ⟨_, rfl, by simp, fun j u hu => ?_⟩⟩
  have ea : (⟨w.heap.size, 0, none⟩ : Addr).add j = ⟨w.heap.size, j, none⟩ := by unfold Addr.add; split <;> simp_all
  rw [ea, World.cell?_alloc_at _ _ _ _ rfl]
  simpa using hu
theorem sts_empty (w : World) : OwnSts (w.alloc (.cells #[] 47)) w.heap.size (.slice (some ⟨w.heap.size, 0, none⟩) 0 0) [] := World.ownsRow_lit w #[] 0 (Nat.le_refl _) (by decide) rfl
def statesL (p : List Int) (h : Nat) (k : Nat) : List (Int × Int) := (List.range k).map fun b => ((h : Int), ((maskTo p b h : Nat) : Int))
theorem statesOf_c (v : Value) (p : List Int) (h : Nat) (w : World) (hv : IntsAt w v p) (ho : okPat p = true) (hh : h ≤ 20) : Calls Try.prog 73 #[v, .int .i64 h] w fun e w' => ∃ a n c, e = .returned (.slice a n c) ∧ OwnSts w' w.heap.size (.slice a n c) (statesL p h p.length) ∧ Below w.heap.size w w' := by
  have HL := Lib.hid (fun (b : Nat) W (x : IntsAt W v p) (y : b ≤ 20) => stateOf_c v p b h W x ho y hh)
  have HV := Lib.hid hv
  have HP := Lib.hid (period_c v p)
  have h12 := (ok_in ho).2.1
  generalize hn : p.length = n at *
  clear hv ho
  go_enter Try.func73, Try.ntmps73
  go_wp2_with fail
  refine (HP.out _ (HV.out.below (by go_grown))).mono ?_
  rintro e w1 ⟨rfl, hb1⟩
  have HO0 := Lib.hid (own_below (sts_empty w) hb1)
  have hb : Below w.heap.size w w1 := bthen (by go_grown) hb1
  clear hb1 HP
  go_wp2
  go_loopw [5, 10] (fun s i wr => ∃ (k : Nat) (a' : Option Addr) (n' c' : Nat), i = .int .i64 k ∧ k ≤ n ∧ s = .slice a' n' c' ∧ Hid (OwnSts wr w.heap.size (.slice a' n' c') (statesL p h k)) ∧ Below w.heap.size w wr) (fun _ i _ => n - (intOf i).toNat)
  case atStart => exact ⟨0, _, _, _, rfl, Nat.zero_le _, rfl, HO0, hb⟩
  case round =>
    clear HO0 hb
    obtain ⟨k, a', n', c', rfl, hk, rfl, HO, hb⟩ := hrel
    by_cases hlt : k < n
    · have HLk := Lib.hid (HL.out k wr (HV.out.below hb) (by omega))
      go_wp2_with fail
      refine HLk.out.mono ?_
      rintro e w2 ⟨rfl, hb2⟩
      replace HO := Lib.hid (own_below HO.out hb2)
      have hbk := bthen hb hb2
      have hsz := hbk.size
      clear hb hb2 HLk
      go_wp2_with (at_builtin; refine wpList_app_sts rfl _ _ rfl w.heap.size _ _ rfl (HO.out.alloc _) _ _ ((h : Int), ((maskTo p k h : Nat) : Int)) rfl (oneSt _ _ _ _) (by unfold statesL; simp; omega) (by simp; omega) ?_)
      intro a2 c2 w3 ho3 hg3 hl3
      have hlen : (statesL p h k).length = k := by unfold statesL; simp
      have HO3 : Hid (OwnSts w3 w.heap.size (.slice a2 (k + 1) c2) (statesL p h (k + 1))) := Lib.hid (by
        rw [hlen] at ho3
        unfold statesL
        rw [List.range_succ, List.map_append]
        exact ho3)
      have hb3 : Below w.heap.size w w3 := (hbk.alloc (by omega) _).grown hg3 (by simp; omega) (fun g hg => (World.ownsRow.lt HO.out g hg).1)
      rw [hlen]
      clear ho3 hg3 hl3 HO hbk
      go_wp2
      exact ⟨⟨k + 1, a2, k + 1, c2, by go_num, hlt, rfl, HO3, hb3⟩, by simp [intOf]; omega⟩
    · obtain rfl : k = n := by omega
      go_wp2
      go_ret
      exact ⟨_, _, _, rfl, HO.out, hb⟩
end Go.Proofs.Ythdejhningghcaa
