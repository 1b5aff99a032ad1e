import Derived.Test.YtclffohjpbmnbaaGreatDoorMg14
import Derived.Test.YtclffohjpbmnbaaGreatDoorMg11
import Derived.Test.YtclffohjpbmnbaaGreatDoorMg12
import Derived.Test.YtclffohjpbmnbaaGreatDoorMg16
import Derived.Test.YtclffohjpbmnbaaGreatDoorMg7
import Derived.Test.YtclffohjpbmnbaaGreatDoorMg15
import Derived.Test.YtclffohjpbmnbaaGreatDoorMg3
/- Match: whether a pattern matches a query, by both packages; the law FnExactMatchesQuery. -/
namespace Go.Proofs.YtclffohjpbmnbaaGreatDoor
open Go.ChangeShapes Go.WideShapes Go.ChangeAt Go.RowKit

def needF (p : List Int) : List Int → Bool
  | [] => true
  | x :: l => hasB p x && needF p l
def avoidF (p : List Int) : List Int → Bool
  | [] => true
  | x :: l => !hasB p x && avoidF p l
theorem needF_step (p l : List Int) (k : Nat) (h : k < l.length) : needF p (l.drop k) = (hasB p (nth l k) && needF p (l.drop (k + 1))) := by
  rw [drop_nth l k h]; rfl
theorem avoidF_step (p l : List Int) (k : Nat) (h : k < l.length) : avoidF p (l.drop k) = (!hasB p (nth l k) && avoidF p (l.drop (k + 1))) := by
  rw [drop_nth l k h]; rfl
def canB (q : Query) (p : List Int) : Bool := !q.canonical || same2 eqI (canL p) p
def headB (q : Query) (p : List Int) : Bool := ((p.length : Int) == q.period) && ((propsL p == q.props) && decide (maxF p 0 ≤ q.high))
def matchB (q : Query) (p : List Int) : Bool := headB q p && (canB q p && (needF p q.need && avoidF p q.avoid))
set_option maxHeartbeats 2000000 in
theorem l21Match_c (q : Query) (y z v : Value) (p : List Int) (b : Nat) (w : World) (hB : BoxIs w b [.int .i64 q.period, .int .i64 q.props, .int .i64 q.high, y, z, .bool q.canonical]) (hQ : QAt w q y z) (hv : IntsAt w v p) (ho : okPat p = true) :
    Calls Tryz.prog 73 #[.pointer (some ⟨b, 0, none⟩), v] w (Gives (.bool (matchB q p)) w) := by
  have ht := okPat_throws ho
  have K1 := Lib.hid (fun W x => l02Props_c v p W x ht)
  have K2 := Lib.hid (fun W x => l02High_c v p W x ht)
  have K3 := Lib.hid (fun W x => l21Canonical_c v p W x ho)
  have HPW := Lib.hid hv
  obtain ⟨va, vn, vc, rfl, hvn, -, -, -⟩ := hv
  obtain ⟨pe, pr, hi, ne, av, ca⟩ := q
  obtain ⟨hy, hz⟩ := hQ
  dsimp only at hB hy hz ⊢
  obtain ⟨ya, yn, yc, rfl, hyn, hyl, hym, hyc⟩ := hy
  obtain ⟨za, zn, zc, rfl, hzn, hzl, hzm, hzc⟩ := hz
  have HYn := Lib.hid hyn; have HYc := Lib.hid hyc; have HZn := Lib.hid hzn; have HZc := Lib.hid hzc
  clear hyn hyc hzn hzc ho ht
  have HBW := Lib.hid hB
  obtain ⟨eB, fB⟩ := hB.cells
  generalize hM : matchB ⟨pe, pr, hi, ne, av, ca⟩ p = M
  have HM0 : Hid (M = (((p.length : Int) == pe) && ((propsL p == pr) && decide (maxF p 0 ≤ hi)) && ((!ca || same2 eqI (canL p) p) && (needF p ne && avoidF p av)))) := Lib.hid (by rw [← hM]; rfl)
  rw [← hvn] at HM0
  clear hM hvn hB
  have hbW : Below w.heap.size w w := Below.refl _ _
  generalize propsL p = P at *
  generalize maxF p 0 = X at *
  generalize same2 eqI (canL p) p = cb at *
  by_cases h1 : (vn : Int) = pe
  · have e1 : ((vn : Int) != pe) = false := by simpa using h1
    by_cases h2 : P = pr
    · have e2 : (P != pr) = false := by simpa using h2
      by_cases h3 : X ≤ hi
      · have HM : Hid (M = ((!ca || cb) && (needF p ne && avoidF p av))) := Lib.hid (by rw [HM0.out, show ((vn : Int) == pe) = true by simpa using h1, show (P == pr) = true by simpa using h2, decide_eq_true h3]; rfl)
        have e3 : decide (hi < X) = false := decide_eq_false (by omega)
        clear HM0 h1 h2 h3
        have k0 := cell_regrown (HBW.out.2.1 0)
        have k1 := cell_regrown (HBW.out.2.1 1)
        have k2 := cell_regrown (HBW.out.2.1 2)
        clear eB fB
        go_wp2
        refine wp_region_quiet_below (by kernel_rfl) (by kernel_rfl) ?_
        repeat (first | go_big_quiet_step (first | exact Calls.regrown_of (K1.out _ (HPW.out.below (below_regrown _ _ _))) | exact Calls.regrown_of (K2.out _ (HPW.out.below (below_regrown _ _ _)))) | quiet_step (first | exact Calls.regrown_of (K1.out _ (HPW.out.below (below_regrown _ _ _))) | exact Calls.regrown_of (K2.out _ (HPW.out.below (below_regrown _ _ _)))))
        refine wpQuiet_nil ?_
        intro _ hw'
        obtain ⟨⟨dq, osq⟩, hw''⟩ := hw'
        subst hw''
        have hbq := below_regrown w dq osq
        generalize Go.Sort.grow (redrawn w dq) osq = wq at *
        replace HBW := Lib.hid (HBW.out.below hbq)
        replace HPW := Lib.hid (HPW.out.below hbq)
        replace HYc := Lib.hid (HYc.out.below hbq)
        replace HZc := Lib.hid (HZc.out.below hbq)
        replace hbW := hbq
        clear k0 k1 k2 hbq
        obtain ⟨eB, fB⟩ := HBW.out.cells
        go_wp2
        go_loopw [5] (fun i wr => ∃ k : Nat, i = .int .i64 k ∧ k ≤ yn ∧ Hid (needF p ne = needF p (ne.drop k)) ∧ Hid (BoxIs wr b [.int .i64 pe, .int .i64 pr, .int .i64 hi, .slice ya yn yc, .slice za zn zc, .bool ca]) ∧ Below wq.heap.size wq wr) (fun i _ => yn - (intOf i).toNat)
        case atStart => exact ⟨0, rfl, Nat.zero_le _, Lib.hid rfl, HBW, Below.refl _ _⟩
        case round =>
          obtain ⟨k, rfl, hk, HS, HB, hb⟩ := hrel
          obtain ⟨eB, fB⟩ := HB.out.cells
          by_cases hlt : k < yn
          · obtain ⟨b', o', rfl, hbs', d0⟩ := (HYc.out.below hb) k (by rw [← HYn.out]; exact hlt)
            have HT := Lib.hid (HS.out.trans (needF_step p ne k (by rw [← HYn.out]; exact hlt)))
            clear HS
            generalize nth ne k = x at *
            have hh := l00Has_c (.slice va vn vc) p x _ (HPW.out.below hb)
            cases hE : hasB p x
            · rw [hE] at hh
              have HV : Hid (M = false) := Lib.hid (by rw [HM.out, HT.out, hE]; simp)
              clear HT hE
              go_wp2_with fail
              refine hh.mono ?_
              rintro e w8 ⟨rfl, hb8⟩
              clear hh
              go_wp2
              go_ret
              exact Gives.bool HV.out (bthen (bthen hbW hb) hb8)
            · rw [hE] at hh
              have HV : Hid (needF p ne = needF p (ne.drop (k + 1))) := Lib.hid (by rw [HT.out, hE]; rfl)
              clear HT hE
              go_wp2_with fail
              refine hh.mono ?_
              rintro e w8 ⟨rfl, hb8⟩
              clear hh
              go_wp2
              exact ⟨⟨k + 1, by go_num, hlt, HV, Lib.hid (HB.out.below hb8), bthen hb hb8⟩, by simp [intOf]; omega⟩
          · have HN : Hid (needF p ne = true) := Lib.hid (by rw [HS.out, drop_end ne k yn HYn.out (by omega)]; rfl)
            clear HS
            have hbV := bthen hbW hb
            have HPV := Lib.hid (HPW.out.below hb)
            have HZV := Lib.hid (HZc.out.below hb)
            have HBV := Lib.hid HB.out
            clear HB eB fB
            obtain ⟨eB, fB⟩ := HBV.out.cells
            go_wp2
            go_loopw [6] (fun i wx => ∃ k : Nat, i = .int .i64 k ∧ k ≤ zn ∧ Hid (avoidF p av = avoidF p (av.drop k)) ∧ Hid (BoxIs wx b [.int .i64 pe, .int .i64 pr, .int .i64 hi, .slice ya yn yc, .slice za zn zc, .bool ca]) ∧ Below wr.heap.size wr wx) (fun i _ => zn - (intOf i).toNat)
            case atStart => exact ⟨0, rfl, Nat.zero_le _, Lib.hid rfl, HBV, Below.refl _ _⟩
            case round =>
              clear eB fB hk hlt
              obtain ⟨k, rfl, hk, HS, HB, hb2⟩ := hrel
              obtain ⟨eB, fB⟩ := HB.out.cells
              by_cases hlt : k < zn
              · obtain ⟨b', o', rfl, hbs', d0⟩ := (HZV.out.below hb2) k (by rw [← HZn.out]; exact hlt)
                have HT := Lib.hid (HS.out.trans (avoidF_step p av k (by rw [← HZn.out]; exact hlt)))
                clear HS
                generalize nth av k = x at *
                have hh := l00Has_c (.slice va vn vc) p x _ (HPV.out.below hb2)
                cases hE : hasB p x
                · rw [hE] at hh
                  have HV : Hid (avoidF p av = avoidF p (av.drop (k + 1))) := Lib.hid (by rw [HT.out, hE]; rfl)
                  clear HT hE
                  go_wp2_with fail
                  refine hh.mono ?_
                  rintro e w8 ⟨rfl, hb8⟩
                  clear hh
                  go_wp2
                  exact ⟨⟨k + 1, by go_num, hlt, HV, Lib.hid (HB.out.below hb8), bthen hb2 hb8⟩, by simp [intOf]; omega⟩
                · rw [hE] at hh
                  have HV : Hid (M = false) := Lib.hid (by rw [HM.out, HT.out, hE]; simp)
                  clear HT hE
                  go_wp2_with fail
                  refine hh.mono ?_
                  rintro e w8 ⟨rfl, hb8⟩
                  clear hh
                  go_wp2
                  go_ret
                  exact Gives.bool HV.out (bthen (bthen hbV hb2) hb8)
              · have HA : Hid (avoidF p av = true) := Lib.hid (by rw [HS.out, drop_end av k zn HZn.out (by omega)]; rfl)
                clear HS
                have hbE := bthen hbV hb2
                have HR : Hid (M = (!ca || cb)) := Lib.hid (by rw [HM.out, HN.out, HA.out]; simp)
                cases ca
                · have HR2 : Hid (M = true) := Lib.hid HR.out
                  go_wp2
                  go_ret
                  exact Gives.bool HR2.out hbE
                · have HR2 : Hid (M = cb) := Lib.hid HR.out
                  go_wp2_with fail
                  refine (K3.out _ (HPV.out.below hb2)).mono ?_
                  rintro e w9 ⟨rfl, hb9⟩
                  go_wp2
                  go_ret
                  exact Gives.bool HR2.out (bthen hbE hb9)
      · have e3 : decide (hi < X) = true := decide_eq_true (by omega)
        have HV : Hid (M = false) := Lib.hid (by rw [HM0.out, decide_eq_false h3]; simp)
        clear HM0 h3
        have k0 := cell_regrown (HBW.out.2.1 0)
        have k1 := cell_regrown (HBW.out.2.1 1)
        have k2 := cell_regrown (HBW.out.2.1 2)
        clear eB fB
        go_wp2
        refine wp_region_quiet_below (by kernel_rfl) (by kernel_rfl) ?_
        repeat (first | go_big_quiet_step (first | exact Calls.regrown_of (K1.out _ (HPW.out.below (below_regrown _ _ _))) | exact Calls.regrown_of (K2.out _ (HPW.out.below (below_regrown _ _ _)))) | quiet_step (first | exact Calls.regrown_of (K1.out _ (HPW.out.below (below_regrown _ _ _))) | exact Calls.regrown_of (K2.out _ (HPW.out.below (below_regrown _ _ _)))))
        refine wpQuiet_nil ?_
        intro _ hw'
        obtain ⟨⟨dq, osq⟩, hw''⟩ := hw'
        subst hw''
        have hbq := below_regrown w dq osq
        generalize Go.Sort.grow (redrawn w dq) osq = wq at *
        go_wp2
        go_ret
        exact Gives.bool HV.out hbq
    · have e2 : (P != pr) = true := by simpa using h2
      have HV : Hid (M = false) := Lib.hid (by rw [HM0.out, show (P == pr) = false by simpa using h2]; simp)
      clear HM0 h2
      have k0 := cell_regrown (HBW.out.2.1 0)
      have k1 := cell_regrown (HBW.out.2.1 1)
      have k2 := cell_regrown (HBW.out.2.1 2)
      clear eB fB
      go_wp2
      refine wp_region_quiet_below (by kernel_rfl) (by kernel_rfl) ?_
      repeat (first | go_big_quiet_step (first | exact Calls.regrown_of (K1.out _ (HPW.out.below (below_regrown _ _ _))) | exact Calls.regrown_of (K2.out _ (HPW.out.below (below_regrown _ _ _)))) | quiet_step (first | exact Calls.regrown_of (K1.out _ (HPW.out.below (below_regrown _ _ _))) | exact Calls.regrown_of (K2.out _ (HPW.out.below (below_regrown _ _ _)))))
      refine wpQuiet_nil ?_
      intro _ hw'
      obtain ⟨⟨dq, osq⟩, hw''⟩ := hw'
      subst hw''
      have hbq := below_regrown w dq osq
      generalize Go.Sort.grow (redrawn w dq) osq = wq at *
      go_wp2
      go_ret
      exact Gives.bool HV.out hbq
  · have e1 : ((vn : Int) != pe) = true := by simpa using h1
    have HV : Hid (M = false) := Lib.hid (by rw [HM0.out, show ((vn : Int) == pe) = false by simpa using h1]; simp)
    clear HM0 h1
    have k0 := cell_regrown (HBW.out.2.1 0)
    have k1 := cell_regrown (HBW.out.2.1 1)
    have k2 := cell_regrown (HBW.out.2.1 2)
    clear eB fB
    go_wp2
    refine wp_region_quiet_below (by kernel_rfl) (by kernel_rfl) ?_
    repeat (first | go_big_quiet_step (first | exact Calls.regrown_of (K1.out _ (HPW.out.below (below_regrown _ _ _))) | exact Calls.regrown_of (K2.out _ (HPW.out.below (below_regrown _ _ _)))) | quiet_step (first | exact Calls.regrown_of (K1.out _ (HPW.out.below (below_regrown _ _ _))) | exact Calls.regrown_of (K2.out _ (HPW.out.below (below_regrown _ _ _)))))
    refine wpQuiet_nil ?_
    intro _ hw'
    obtain ⟨⟨dq, osq⟩, hw''⟩ := hw'
    subst hw''
    have hbq := below_regrown w dq osq
    generalize Go.Sort.grow (redrawn w dq) osq = wq at *
    go_wp2
    go_ret
    exact Gives.bool HV.out hbq
end Go.Proofs.YtclffohjpbmnbaaGreatDoor

/- SearchG: searches for the patterns of a query: what stands at a leaf of the search is a pattern, and its sum is as it should be (no program). -/
namespace Go.Proofs.YtclffohjpbmnbaaGreatDoor
open Go.RowKit

theorem nodup_le : ∀ (n : Nat) (l : List Nat), l.Nodup → (∀ x ∈ l, x < n) → l.length ≤ n
  | 0, l, _, hb => by
    cases l with
    | nil => simp
    | cons x l => exact absurd (hb x (List.mem_cons_self ..)) (Nat.not_lt_zero _)
  | n + 1, l, hn, hb => by
    by_cases hm : n ∈ l
    · have h1 := nodup_le n (l.erase n) (hn.erase n) (fun x hx => by
        have h2 := (hn.mem_erase_iff).1 hx
        have := hb x h2.2
        have := h2.1
        omega)
      rw [List.length_erase_of_mem hm] at h1
      omega
    · have h1 := nodup_le n l hn (fun x hx => by
        have := hb x hx
        have : x ≠ n := fun e => hm (e ▸ hx)
        omega)
      omega
theorem perm_sum {l m : List Nat} (h : l.Perm m) : l.sum = m.sum := by
  induction h with
  | nil => rfl
  | cons x _ ih => simp [ih]
  | swap x y l => simp; omega
  | trans _ _ h1 h2 => exact h1.trans h2
theorem nodup_sum : ∀ (n : Nat) (l : List Nat), l.Nodup → (∀ x ∈ l, x < n) → l.length = n → l.sum = (List.range n).sum
  | 0, l, _, _, hl => by rw [List.eq_nil_of_length_eq_zero hl]; rfl
  | n + 1, l, hn, hb, hl => by
    have hm : n ∈ l := by
      refine Decidable.byContradiction fun hm => ?_
      have := nodup_le n l hn (fun x hx => by
        have := hb x hx
        have : x ≠ n := fun e => hm (e ▸ hx)
        omega)
      omega
    have h1 := nodup_sum n (l.erase n) (hn.erase n) (fun x hx => by
      have h2 := (hn.mem_erase_iff).1 hx
      have := hb x h2.2
      have := h2.1
      omega) (by rw [List.length_erase_of_mem hm]; omega)
    have h2 := perm_sum (List.perm_cons_erase hm)
    rw [h2, List.sum_cons, h1, List.range_succ, List.sum_append]
    simp; omega

def landN (n : Nat) (pre : List Int) : List Nat := (List.range pre.length).map fun i => (i + (nth pre i).toNat) % n
theorem nth_snoc_lt {α : Type} [Inhabited α] (l : List α) (x : α) (i : Nat) (h : i < l.length) : nth (l ++ [x]) i = nth l i := by
  unfold nth; simp [List.getD, List.getElem?_append_left h]
theorem nth_snoc_eq {α : Type} [Inhabited α] (l : List α) (x : α) : nth (l ++ [x]) l.length = x := by
  unfold nth; simp [List.getD]
theorem landN_snoc (n : Nat) (pre : List Int) (t : Nat) : landN n (pre ++ [(t : Int)]) = landN n pre ++ [(pre.length + t) % n] := by
  unfold landN
  rw [List.length_append, List.length_singleton, List.range_succ, List.map_append]
  congr 1
  · apply List.map_congr_left
    intro i hi
    rw [nth_snoc_lt _ _ _ (List.mem_range.1 hi)]
  · simp [nth_snoc_eq]
def frB (q : Query) (n : Nat) (pre : List Int) (t : Nat) : Bool := !(decide ((pre.length + t) % n ∈ landN n pre)) && !(hasB q.avoid (t : Int))
structure Good (q : Query) (n : Nat) (pre : List Int) (left : Int) : Prop where
  throws : ∀ x ∈ pre, 0 ≤ x ∧ x ≤ q.high
  apart : (landN n pre).Nodup
  left : left = q.props * (n : Int) - sumF pre 0
theorem sumF_add : ∀ (l : List Int) (s : Int), sumF l s = s + sumF l 0
  | [], s => by simp [sumF]
  | x :: l, s => by
    simp only [sumF]
    rw [sumF_add l (s + x), sumF_add l (0 + x)]; omega
theorem sumF_snoc (l : List Int) (x : Int) : sumF (l ++ [x]) 0 = sumF l 0 + x := by
  have : ∀ (l : List Int) (s : Int), sumF (l ++ [x]) s = sumF l s + x := by
    intro l
    induction l with
    | nil => intro s; rfl
    | cons y l ih => intro s; simp only [List.cons_append, sumF]; exact ih _
  exact this l 0
theorem good_start (q : Query) (n : Nat) : Good q n [] (q.props * (n : Int)) := ⟨fun x hx => absurd hx List.not_mem_nil, by simp [landN], by simp [sumF]⟩
theorem good_step {q : Query} {n : Nat} (H : Nat) (hH : (H : Int) = q.high) (pre : List Int) (left : Int) (t : Nat) (h : Good q n pre left) (_ : pre.length < n) (ht : t ≤ H) (hf : frB q n pre t = true) : Good q n (pre ++ [(t : Int)]) (left - t) := by
  refine ⟨fun x hx => ?_, ?_, ?_⟩
  · rcases List.mem_append.1 hx with h1 | h1
    · exact h.throws x h1
    · rw [List.mem_singleton.1 h1]; omega
  · rw [landN_snoc]
    unfold frB at hf
    simp only [Bool.and_eq_true, Bool.not_eq_true', decide_eq_false_iff_not] at hf
    rw [List.nodup_append]
    refine ⟨h.apart, by simp, fun a ha b hb e => ?_⟩
    rw [List.mem_singleton.1 hb] at e
    exact hf.1 (e ▸ ha)
  · rw [sumF_snoc, h.left]; omega
theorem sum_toNat : ∀ (l : List Int), (∀ x ∈ l, 0 ≤ x) → sumF l 0 = ((l.map Int.toNat).sum : Int)
  | [], _ => rfl
  | x :: l, h => by
    have h1 := sum_toNat l (fun y hy => h y (List.mem_cons_of_mem _ hy))
    have h2 := h x (List.mem_cons_self ..)
    simp only [sumF, List.map_cons, List.sum_cons]
    rw [sumF_add, h1]; omega
theorem sum_mod (n : Nat) : ∀ l : List Nat, (l.map (· % n)).sum % n = l.sum % n
  | [] => rfl
  | x :: l => by
    simp only [List.map_cons, List.sum_cons]
    rw [Nat.add_mod, sum_mod n l, Nat.mod_mod, ← Nat.add_mod]
theorem sum_shift : ∀ (l : List Nat) (k : Nat), ((List.range l.length).map fun i => (i + k) + l.getD i 0).sum = ((List.range l.length).map fun i => i + k).sum + l.sum
  | [], _ => rfl
  | x :: l, k => by
    rw [List.length_cons, List.range_succ_eq_map, List.map_cons, List.map_cons, List.map_map, List.map_map, List.sum_cons, List.sum_cons, List.sum_cons]
    have h := sum_shift l (k + 1)
    have e1 : ((List.range l.length).map ((fun i => (i + k) + (x :: l).getD i 0) ∘ Nat.succ)) = ((List.range l.length).map fun i => (i + (k + 1)) + l.getD i 0) := by
      apply List.map_congr_left; intro i _; simp; omega
    have e2 : ((List.range l.length).map ((fun i => i + k) ∘ Nat.succ)) = ((List.range l.length).map fun i => i + (k + 1)) := by
      apply List.map_congr_left; intro i _; simp; omega
    rw [e1, e2, h]; simp; omega
theorem leaf_div {q : Query} {n : Nat} {pre : List Int} {left : Int} (h : Good q n pre left) (hl : pre.length = n) (hn : 1 ≤ n) : (n : Int) * (sumF pre 0 / (n : Int)) = sumF pre 0 := by
  have h1 : (landN n pre).sum = (List.range n).sum := nodup_sum n _ h.apart (fun x hx => by
    obtain ⟨i, _, rfl⟩ := List.mem_map.1 hx
    exact Nat.mod_lt _ hn) (by simp [landN, hl])
  have h2 : landN n pre = (((List.range (pre.map Int.toNat).length).map fun i => (i + 0) + (pre.map Int.toNat).getD i 0)).map (· % n) := by
    unfold landN
    rw [List.map_map, List.length_map]
    apply List.map_congr_left
    intro i hi
    have hi' := List.mem_range.1 hi
    simp only [Function.comp]
    congr 2
    rw [nth_eq _ _ hi']
    simp [List.getD, hi']
  have h3 := sum_shift (pre.map Int.toNat) 0
  have h4 : ((List.range (pre.map Int.toNat).length).map fun i => i + 0) = List.range n := by
    rw [List.length_map, hl]; simp
  rw [h4] at h3
  have h5 := sum_mod n ((List.range (pre.map Int.toNat).length).map fun i => (i + 0) + (pre.map Int.toNat).getD i 0)
  rw [← h2, h1, h3] at h5
  have h6 : (pre.map Int.toNat).sum % n = 0 := by
    have e : ((List.range n).sum + (pre.map Int.toNat).sum) % n = (List.range n).sum % n := h5.symm
    have := Nat.sub_mod_eq_zero_of_mod_eq e
    rwa [Nat.add_sub_cancel_left] at this
  have h7 := sum_toNat pre (fun x hx => (h.throws x hx).1)
  rw [h7]
  have h8 := Nat.div_add_mod (pre.map Int.toNat).sum n
  rw [h6] at h8
  have : ((n * ((pre.map Int.toNat).sum / n) : Nat) : Int) = ((pre.map Int.toNat).sum : Int) := by rw [Nat.add_zero] at h8; rw [h8]
  rw [← this]
  push_cast
  rw [Int.mul_ediv_cancel_left _ (by omega)]
theorem good_leaf {q : Query} {n : Nat} (hn : 1 ≤ n) (pre : List Int) (left : Int) (h : Good q n pre left) (hl : pre.length = n) (h0 : left ≠ 0) : matchB q pre = false := by
  cases hm : matchB q pre
  · rfl
  · exfalso
    unfold matchB headB at hm
    simp only [Bool.and_eq_true, beq_iff_eq, decide_eq_true_eq] at hm
    have h1 : propsL pre = q.props := hm.1.2.1
    unfold propsL meanL at h1
    rw [hl] at h1
    have h2 := leaf_div h hl hn
    rw [h1] at h2
    have h3 := h.left
    rw [Int.mul_comm] at h2
    omega
theorem good_okPat {q : Query} {n : Nat} {pre : List Int} {left : Int} (h : Good q n pre left) (hl : pre.length = n) (hn : 1 ≤ n) (hn12 : n ≤ 12) (hh : q.high ≤ 15) : okPat pre = true := by
  unfold okPat throwsB
  have h1 : throwsF pre = true := by
    have : ∀ l : List Int, (∀ x ∈ l, 0 ≤ x ∧ x ≤ q.high) → throwsF l = true := by
      intro l
      induction l with
      | nil => intro _; rfl
      | cons x l ih =>
        intro hx
        have := hx x (List.mem_cons_self ..)
        simp only [throwsF, ih (fun y hy => hx y (List.mem_cons_of_mem _ hy)), Bool.and_true, inB, Bool.and_eq_true, decide_eq_true_eq]
        omega
    exact this pre h.throws
  have h2 : inB (pre.length : Int) 1 12 = true := by unfold inB; rw [hl]; simp; omega
  have h3 : clashFree pre = true := by
    rw [clashFree_iff]
    intro k hk
    rw [rowFree_iff]
    intro i hi e
    have hp := h.apart
    have hli : i < (landN n pre).length := by simp [landN]; omega
    have hlk : k < (landN n pre).length := by simp [landN]; omega
    have hx : (landN n pre)[i] ≠ (landN n pre)[k] := (List.pairwise_iff_getElem.1 hp) i k hli hlk hi
    apply hx
    have g : ∀ (j : Nat) (hj : j < (landN n pre).length), (landN n pre)[j] = (j + (nth pre j).toNat) % n := fun j hj => by simp [landN]
    rw [g i hli, g k hlk]
    unfold land at e
    rw [hl] at e
    have cv : ∀ (j : Nat) (x : Int), 0 ≤ x → ((j : Int) + x) % (n : Int) = (((j + x.toNat) % n : Nat) : Int) := fun j x hx => by
      rw [Int.natCast_emod, Int.natCast_add, Int.toNat_of_nonneg hx]
    have p1 := (h.throws (nth pre i) (by rw [nth_eq _ _ (by omega)]; exact List.getElem_mem _)).1
    have p2 := (h.throws (nth pre k) (by rw [nth_eq _ _ hk]; exact List.getElem_mem _)).1
    rw [cv i _ p1, cv k _ p2] at e
    exact Int.ofNat_inj.1 e
  rw [h1, h2, h3]; rfl
end Go.Proofs.YtclffohjpbmnbaaGreatDoor
