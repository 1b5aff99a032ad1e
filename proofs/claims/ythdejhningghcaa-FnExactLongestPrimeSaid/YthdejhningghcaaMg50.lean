import Derived.Test.YthdejhningghcaaMg49
import Derived.Test.YthdejhningghcaaMg3
import Derived.Test.YthdejhningghcaaMg29
/- PrK: the prime patterns of a period with a code, their number, the longest period: both packages. -/
namespace Go.Proofs.Ythdejhningghcaa
open Go.ChangeShapes Go.WideShapes Go.ChangeAt Go.RowKit

def prCode (n h p : Int) : Int := if (inB h 1 7 && (inB n 0 h && inB p 1 6)) then 0 else 2
theorem prCode_0 {n h p : Int} (e : prCode n h p = 0) : ∃ N H P : Nat, n = N ∧ h = H ∧ p = P ∧ 1 ≤ P ∧ P ≤ 6 ∧ H ≤ 7 ∧ N ≤ 7 := by
  unfold prCode at e
  split at e
  · rename_i hb
    rw [Bool.and_eq_true, Bool.and_eq_true] at hb
    obtain ⟨h1, h2, h3⟩ := hb
    have h1 := inB_true h1
    have h2 := inB_true h2
    have h3 := inB_true h3
    exact ⟨n.toNat, h.toNat, p.toNat, by omega, by omega, by omega, by omega, by omega, by omega, by omega⟩
  · simp at e
def prList (n h p : Int) : List (List Int) := implL n.toNat h.toNat p.toNat
def prL (n h p : Int) : List (List Int) := if prCode n h p = 0 then (if 30 < (prList n h p).length then [] else prList n h p) else []
def prC (n h p : Int) : Int := if prCode n h p = 0 then (if 30 < (prList n h p).length then 5 else 0) else prCode n h p
theorem prL_len (n h p : Int) : (prL n h p).length ≤ 1048576 := by
  unfold prL
  split
  · split
    · simp
    · omega
  · simp
theorem prL_in (n h p : Int) : ∀ x ∈ prL n h p, x.length ≤ 1048576 := by
  unfold prL
  split
  · rename_i hc
    split
    · intro x hx; exact absurd hx List.not_mem_nil
    · intro x hx
      obtain ⟨N, H, P, rfl, rfl, rfl, h1, h2, h3, h4⟩ := prCode_0 hc
      have hx : x ∈ implL N H P := by simpa [prList] using hx
      have hx : x ∈ (eachF H P P [] (N * P)).filter implT := hx
      have := (each_ok (N := N) ⟨h1, by omega⟩ h3 (List.mem_filter.1 hx).1).2.1
      omega
  · intro x hx; exact absurd hx List.not_mem_nil
theorem intss_len {w : World} {base : Nat} {a : Option Addr} {n c : Nat} {l : List (List Int)} (h : OwnIntss w base (.slice a n c) l) : n = l.length := by
  obtain ⟨ps, h1, h2, _, _⟩ := h
  obtain ⟨_, _, e⟩ := slice_of_own h2
  injection e with _ e2 _
theorem primesCode_c (n h p : Int) (w : World) : Calls Try.prog 16 #[.int .i64 n, .int .i64 h, .int .i64 p] w (Gives (.int .i64 (prCode n h p)) w) := by
  have q1 := Lib.hid (fun W => between_c h 1 7 W)
  have q2 := Lib.hid (fun W => between_c n 0 h W)
  have q3 := Lib.hid (fun W => between_c p 1 6 W)
  have HC : Hid (prCode n h p = if (inB h 1 7 && (inB n 0 h && inB p 1 6)) then 0 else 2) := Lib.hid rfl
  generalize prCode n h p = r at *
  generalize inB h 1 7 = b1 at *
  generalize inB n 0 h = b2 at *
  generalize inB p 1 6 = b3 at *
  cases b1
  · have HR : Hid (r = 2) := Lib.hid HC.out
    clear HC q2 q3
    go_enter Try.func16, Try.ntmps16
    go_wp2_with fail
    refine (q1.out _).mono ?_
    rintro e w1 ⟨rfl, hb1⟩
    go_wp2
    go_ret
    exact Gives.int HR.out hb1
  · cases b2
    · have HR : Hid (r = 2) := Lib.hid HC.out
      clear HC q3
      go_enter Try.func16, Try.ntmps16
      go_wp2_with fail
      refine (q1.out _).mono ?_
      rintro e w1 ⟨rfl, hb1⟩
      go_wp2_with fail
      refine (q2.out _).mono ?_
      rintro e w2 ⟨rfl, hb2⟩
      go_wp2
      go_ret
      exact Gives.int HR.out (bthen hb1 hb2)
    · cases b3
      · have HR : Hid (r = 2) := Lib.hid HC.out
        clear HC
        go_enter Try.func16, Try.ntmps16
        go_wp2_with fail
        refine (q1.out _).mono ?_
        rintro e w1 ⟨rfl, hb1⟩
        go_wp2_with fail
        refine (q2.out _).mono ?_
        rintro e w2 ⟨rfl, hb2⟩
        go_wp2_with fail
        refine (q3.out _).mono ?_
        rintro e w3 ⟨rfl, hb3⟩
        go_wp2
        go_ret
        exact Gives.int HR.out (bthen (bthen hb1 hb2) hb3)
      · have HR : Hid (r = 0) := Lib.hid HC.out
        clear HC
        go_enter Try.func16, Try.ntmps16
        go_wp2_with fail
        refine (q1.out _).mono ?_
        rintro e w1 ⟨rfl, hb1⟩
        go_wp2_with fail
        refine (q2.out _).mono ?_
        rintro e w2 ⟨rfl, hb2⟩
        go_wp2_with fail
        refine (q3.out _).mono ?_
        rintro e w3 ⟨rfl, hb3⟩
        go_wp2
        go_ret
        exact Gives.int HR.out (bthen (bthen hb1 hb2) hb3)
theorem l11Ask_c (n h p : Int) (w : World) : Calls Try.prog 21 #[.int .i64 n, .int .i64 h, .int .i64 p] w (Gives (.int .i64 (prCode n h p)) w) := by
  have q1 := Lib.hid (fun W => l00In_c h 1 7 W)
  have q2 := Lib.hid (fun W => l00In_c n 0 h W)
  have q3 := Lib.hid (fun W => l00In_c p 1 6 W)
  have HC : Hid (prCode n h p = if (inB h 1 7 && (inB n 0 h && inB p 1 6)) then 0 else 2) := Lib.hid rfl
  generalize prCode n h p = r at *
  generalize inB h 1 7 = b1 at *
  generalize inB n 0 h = b2 at *
  generalize inB p 1 6 = b3 at *
  cases b1
  · have HR : Hid (r = 2) := Lib.hid HC.out
    clear HC q2 q3
    go_enter Try.func21, Try.ntmps21
    go_wp2_with fail
    refine (q1.out _).mono ?_
    rintro e w1 ⟨rfl, hb1⟩
    go_wp2
    go_ret
    exact Gives.int HR.out hb1
  · cases b2
    · have HR : Hid (r = 2) := Lib.hid HC.out
      clear HC q3
      go_enter Try.func21, Try.ntmps21
      go_wp2_with fail
      refine (q1.out _).mono ?_
      rintro e w1 ⟨rfl, hb1⟩
      go_wp2_with fail
      refine (q2.out _).mono ?_
      rintro e w2 ⟨rfl, hb2⟩
      go_wp2
      go_ret
      exact Gives.int HR.out (bthen hb1 hb2)
    · cases b3
      · have HR : Hid (r = 2) := Lib.hid HC.out
        clear HC
        go_enter Try.func21, Try.ntmps21
        go_wp2_with fail
        refine (q1.out _).mono ?_
        rintro e w1 ⟨rfl, hb1⟩
        go_wp2_with fail
        refine (q2.out _).mono ?_
        rintro e w2 ⟨rfl, hb2⟩
        go_wp2_with fail
        refine (q3.out _).mono ?_
        rintro e w3 ⟨rfl, hb3⟩
        go_wp2
        go_ret
        exact Gives.int HR.out (bthen (bthen hb1 hb2) hb3)
      · have HR : Hid (r = 0) := Lib.hid HC.out
        clear HC
        go_enter Try.func21, Try.ntmps21
        go_wp2_with fail
        refine (q1.out _).mono ?_
        rintro e w1 ⟨rfl, hb1⟩
        go_wp2_with fail
        refine (q2.out _).mono ?_
        rintro e w2 ⟨rfl, hb2⟩
        go_wp2_with fail
        refine (q3.out _).mono ?_
        rintro e w3 ⟨rfl, hb3⟩
        go_wp2
        go_ret
        exact Gives.int HR.out (bthen (bthen hb1 hb2) hb3)
theorem prL_at {N H P : Nat} (hc : prCode N H P = 0) : prL N H P = if 30 < (implL N H P).length then [] else implL N H P := by
  unfold prL prList
  rw [if_pos hc]
  rfl
theorem prC_at {N H P : Nat} (hc : prCode N H P = 0) : prC N H P = if 30 < (implL N H P).length then 5 else 0 := by
  unfold prC prList
  rw [if_pos hc]
  rfl
theorem prL_no {n h p : Int} (hc : prCode n h p ≠ 0) : prL n h p = [] := by unfold prL; rw [if_neg hc]
theorem prC_no {n h p : Int} (hc : prCode n h p ≠ 0) : prC n h p = prCode n h p := by unfold prC; rw [if_neg hc]
theorem l11Found_c (n h p : Int) (w : World) : Calls Try.prog 15 #[.int .i64 n, .int .i64 h, .int .i64 p] w (GivesIntssC (prL n h p) (prC n h p) w) := by
  have qc := Lib.hid (fun W => l11Ask_c n h p W)
  by_cases hc : prCode n h p = 0
  · obtain ⟨N, H, P, rfl, rfl, rfl, h1, h2, h3, h4⟩ := prCode_0 hc
    have QA := Lib.hid (fun W => l11All_c N H P W h1 h2 h3 h4)
    have LAW := Lib.hid (primes_law (N := N) (P := P) ⟨h1, by omega⟩ h3)
    have HL := Lib.hid (prL_at hc)
    have HC := Lib.hid (prC_at hc)
    simp only [hc] at qc
    clear hc h1 h2 h3 h4
    generalize prL N H P = rl at *
    generalize prC N H P = rc at *
    generalize implL N H P = il at *
    generalize specS N H P = R at *
    obtain ⟨so, sf⟩ := R
    go_enter Try.func15, Try.ntmps15
    go_wp2_with fail
    refine (qc.out _).mono ?_
    rintro e w1 ⟨rfl, hb1⟩
    go_wp2_with fail
    refine (QA.out _).mono ?_
    rintro e w2 ⟨a, m, c, rfl, ho, hb2⟩
    have HO := Lib.hid ho
    have HB := Lib.hid (bthen hb1 hb2)
    have HB1 := Lib.hid hb1.size
    clear hb1 hb2 ho qc QA
    cases sf
    · have hln := LAW.out.1 rfl
      have HL2 : Hid (rl = il) := Lib.hid (by rw [HL.out, if_neg (by omega)])
      have HC2 : Hid (rc = 0) := Lib.hid (by rw [HC.out, if_neg (by omega)])
      have HE : Hid (so = il) := Lib.hid hln.1
      clear HL HC LAW hln
      go_wp2
      go_ret2
      exact GivesIntssC.mk HC2.out (by rw [HL2.out, ← HE.out]; exact HO.out.mono HB1.out) HB.out
    · have hln := LAW.out.2.1 rfl
      have HL2 : Hid (rl = []) := Lib.hid (by rw [HL.out, if_pos hln])
      have HC2 : Hid (rc = 5) := Lib.hid (by rw [HC.out, if_pos hln])
      clear HL HC LAW hln
      go_wp2
      go_ret2
      exact GivesIntssC.none HL2.out HC2.out HB.out
  · skip
    have HL : Hid (prL n h p = []) := Lib.hid (prL_no hc)
    have HC : Hid (prC n h p = prCode n h p) := Lib.hid (prC_no hc)
    generalize prL n h p = rl at *
    generalize prC n h p = rc at *
    generalize prCode n h p = r at *
    have hcb : (r != 0) = true := bne_iff_ne.2 hc
    go_enter Try.func15, Try.ntmps15
    go_wp2_with fail
    refine (qc.out _).mono ?_
    rintro e w1 ⟨rfl, hb1⟩
    have HB := Lib.hid hb1
    clear hb1 qc
    go_wp2
    go_ret2
    exact GivesIntssC.none HL.out HC.out HB.out
theorem sPrimesOf_c (n h p : Int) (w : World) : Calls Try.prog 6 #[.int .i64 n, .int .i64 h, .int .i64 p] w (GivesIntssC (prL n h p) (prC n h p) w) := by
  have q := Lib.hid (fun W => l11Found_c n h p W)
  generalize prL n h p = rl at *
  generalize prC n h p = rc at *
  go_enter Try.func6, Try.ntmps6
  go_wp2_with fail
  refine (q.out _).mono ?_
  rintro e w1 ⟨a, m, c, rfl, ho, hb⟩
  go_wp2
  go_ret2
  exact GivesIntssC.mk rfl ho hb
theorem iPrimesOf_c (n h p : Int) (w : World) : Calls Try.prog 7 #[.int .i64 n, .int .i64 h, .int .i64 p] w (GivesIntssC (prL n h p) (prC n h p) w) := by
  have qc := Lib.hid (fun W => primesCode_c n h p W)
  by_cases hc : prCode n h p = 0
  · obtain ⟨N, H, P, rfl, rfl, rfl, h1, h2, h3, h4⟩ := prCode_0 hc
    have QA := Lib.hid (fun W => primesOf_c N P H W h1 h2 h3 h4)
    have HL := Lib.hid (prL_at hc)
    have HC := Lib.hid (prC_at hc)
    simp only [hc] at qc
    clear hc h1 h2 h3 h4
    generalize prL N H P = rl at *
    generalize prC N H P = rc at *
    generalize implL N H P = il at *
    go_enter Try.func7, Try.ntmps7
    go_wp2_with fail
    refine (qc.out _).mono ?_
    rintro e w1 ⟨rfl, hb1⟩
    go_wp2_with fail
    refine (QA.out _).mono ?_
    rintro e w2 ⟨a, m, c, rfl, ho, hb2⟩
    have HO := Lib.hid ho
    have HB := Lib.hid (bthen hb1 hb2)
    have HB1 := Lib.hid hb1.size
    have hm := intss_len ho
    rw [← hm] at HL HC
    clear hb1 hb2 ho qc QA hm
    by_cases hln : 30 < m
    · have HL2 : Hid (rl = []) := Lib.hid (by rw [HL.out, if_pos hln])
      have HC2 : Hid (rc = 5) := Lib.hid (by rw [HC.out, if_pos hln])
      have hlI : (30 : Int) < (m : Int) := by omega
      clear HL HC
      go_wp2
      go_ret2
      exact GivesIntssC.none HL2.out HC2.out HB.out
    · have HL2 : Hid (rl = il) := Lib.hid (by rw [HL.out, if_neg hln])
      have HC2 : Hid (rc = 0) := Lib.hid (by rw [HC.out, if_neg hln])
      have hlI : ¬ (30 : Int) < (m : Int) := by omega
      clear HL HC
      go_wp2
      go_ret2
      exact GivesIntssC.mk HC2.out (by rw [HL2.out]; exact HO.out.mono HB1.out) HB.out
  · skip
    have HL : Hid (prL n h p = []) := Lib.hid (prL_no hc)
    have HC : Hid (prC n h p = prCode n h p) := Lib.hid (prC_no hc)
    generalize prL n h p = rl at *
    generalize prC n h p = rc at *
    generalize prCode n h p = r at *
    have hcb : (r != 0) = true := bne_iff_ne.2 hc
    go_enter Try.func7, Try.ntmps7
    go_wp2_with fail
    refine (qc.out _).mono ?_
    rintro e w1 ⟨rfl, hb1⟩
    have HB := Lib.hid hb1
    clear hb1 qc
    go_wp2
    go_ret2
    exact GivesIntssC.none HL.out HC.out HB.out
end Go.Proofs.Ythdejhningghcaa
