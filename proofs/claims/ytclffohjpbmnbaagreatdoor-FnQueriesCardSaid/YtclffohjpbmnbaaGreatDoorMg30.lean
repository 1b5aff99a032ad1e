import Derived.Test.YtclffohjpbmnbaaGreatDoorMg29
import Derived.Test.YtclffohjpbmnbaaGreatDoorMg21
import Derived.Test.YtclffohjpbmnbaaGreatDoorMg7
import Derived.Test.YtclffohjpbmnbaaGreatDoorMg13
/- Find: FindPatterns, walked in both packages. -/
namespace Go.Proofs.YtclffohjpbmnbaaGreatDoor
open Go.ChangeShapes Go.WideShapes Go.ChangeAt Go.RowKit

def findCode (q : Query) (most : Int) : Int := if okQueryB q = true then (if inB most 0 200 = true then searchCode q else 2) else 1
def fndL (q : Query) (most : Int) : List (List Int) := if findCode q most = 0 then (treeR q).2.take most.toNat else []
theorem treeR_len {q : Query} (h : okQueryB q = true) : ∀ x ∈ (treeR q).2, x.length ≤ 12 := by
  intro x hx
  obtain ⟨n, H, hqn, hqH, hn1, hn12, hH, hp0, hp15⟩ := okQuery_in h
  obtain ⟨y, hxy, hy⟩ := tree_ext _ _ _ x hx
  rw [hxy, List.nil_append, hy, hqn]; simpa using hn12
theorem findCode_0 {q : Query} {most : Int} (h : findCode q most = 0) : okQueryB q = true ∧ inB most 0 200 = true ∧ searchCode q = 0 := by
  unfold findCode at h
  split at h
  · rename_i h1
    split at h
    · rename_i h2; exact ⟨h1, h2, h⟩
    · exact absurd h (by decide)
  · exact absurd h (by decide)
theorem fndL_len (q : Query) (most : Int) : (fndL q most).length ≤ 1048576 := by
  unfold fndL
  split
  · rename_i h
    have := inB_true (findCode_0 h).2.1
    rw [List.length_take]; omega
  · simp
theorem fndL_in (q : Query) (most : Int) : ∀ x ∈ fndL q most, x.length ≤ 1048576 := by
  unfold fndL
  split
  · rename_i h
    intro x hx
    have := treeR_len (findCode_0 h).1 x (List.mem_of_mem_take hx)
    omega
  · intro x hx; exact absurd hx List.not_mem_nil
theorem OwnIntss.cut {w : World} {base n c k : Nat} {a : Option Addr} {l : List (List Int)} (h : OwnIntss w base (.slice a n c) l) (hk : k ≤ l.length) (ha : a ≠ none) : OwnIntss w base (.slice a k c) (l.take k) := by
  obtain ⟨ps, rfl, h2, h3, h4⟩ := h
  have hb : (Value.slice a k c).ownBlock = (Value.slice a n c).ownBlock := by cases a <;> rfl
  have e : ∀ qs : List (Value × List Int), qs.flatMap (fun p => intssS.enc p.1 p.2) = qs.map (·.1) := fun qs => by
    induction qs with
    | nil => rfl
    | cons x t ih => rw [List.flatMap_cons, ih]; rfl
  rw [List.length_map] at hk
  have hl : ((ps.map (·.2)).take k).length = k := by rw [List.length_take, List.length_map]; omega
  have h2' : w.ownsRow base 24 1 (.slice a n c) ps.length (ps.map (·.1)) := by rw [← e]; rw [List.length_map] at h2; exact h2
  refine ⟨ps.take k, by rw [List.map_take], ?_, fun p hp => ?_, h4.sublist (List.take_sublist _ _)⟩
  · rw [hl, e]
    show w.ownsRow base 24 1 (.slice a k c) k ((ps.take k).map (·.1))
    obtain ⟨h1, h2⟩ := h2'
    refine ⟨by simp; omega, ?_⟩
    rcases h2 with ⟨e, _⟩ | ⟨g, cap, cur, e, hbg, hg, hnc, hcm, hcs, htake⟩
    · injection e with e; exact absurd e ha
    · injection e with e1 e2 e3
      subst e1 e2 e3
      refine .inr ⟨g, c, cur, rfl, hbg, hg, by omega, hcm, hcs, ?_⟩
      have h3 := congrArg (fun x : List Value => x.take (k * 1)) htake
      simp only [List.take_take] at h3
      rw [Nat.min_eq_left (by omega)] at h3
      rw [h3, List.map_take, Nat.mul_one]
  · obtain ⟨g1, g2, g3, g4⟩ := h3 p (List.mem_of_mem_take hp)
    exact ⟨g1, g2, g3, fun g hg => by rw [hb]; exact g4 g hg⟩
theorem OwnIntss.cut0 {w : World} {base n c k : Nat} {a : Option Addr} {l : List (List Int)} (h : OwnIntss w base (.slice a n c) l) (hk : k ≤ l.length) : OwnIntss w base (.slice a k c) (l.take k) := by
  cases a with
  | some p => exact h.cut hk (by simp)
  | none =>
    obtain ⟨ps, h1, h2, _, _⟩ := h
    rcases h2.2 with ⟨e, h0⟩ | ⟨g, cap, cur, e, _⟩
    · injection e with _ _ e3
      have hk0 : k = 0 := by omega
      subst hk0; subst e3
      rw [List.take_zero]; exact intss_none _ _
    · injection e with e1; cases e1
theorem behB_none (l : List (List Int)) : l.filter (behB []) = l := List.filter_eq_self.2 (fun x _ => by simp [behB])
end Go.Proofs.YtclffohjpbmnbaaGreatDoor

/- EasyF: EasiestFound, walked in both packages. -/
namespace Go.Proofs.YtclffohjpbmnbaaGreatDoor
open Go.ChangeShapes Go.WideShapes Go.ChangeAt Go.RowKit

section
variable {M : List Int → Bool} {fr : List Int → Nat → Bool} {H : Nat}
theorem tree_mem {G : List Int → Int → Prop} {n : Nat} (hG : ∀ pre left t, G pre left → pre.length < n → t ≤ H → fr pre t = true → G (pre ++ [(t : Int)]) (left - t)) :
    ∀ (d : Nat) (pre : List Int) (rest : Int), G pre rest → pre.length + d = n → ∀ x ∈ (tree M fr H d pre rest).2, (∃ left, G x left) ∧ x.length = n ∧ M x = true
  | 0, pre, rest, hg, hl, x, hx => by
    unfold tree at hx
    cases hm : M pre
    · simp [hm] at hx
    · simp [hm] at hx; subst hx; exact ⟨⟨rest, hg⟩, by omega, hm⟩
  | d + 1, pre, rest, hg, hl, x, hx => by
    unfold tree at hx
    split at hx
    · simp at hx
    · revert x
      have hfold : ∀ (ts : List Nat), (∀ t ∈ ts, t ≤ H) → ∀ (a : Nat × List (List Int)), (∀ x ∈ a.2, (∃ left, G x left) ∧ x.length = n ∧ M x = true) →
          ∀ x ∈ (ts.foldl (fun a t => if fr pre t then (a.1 + (tree M fr H d (pre ++ [(t : Int)]) (rest - t)).1, a.2 ++ (tree M fr H d (pre ++ [(t : Int)]) (rest - t)).2) else a) a).2, (∃ left, G x left) ∧ x.length = n ∧ M x = true := by
        intro ts
        induction ts with
        | nil => intro _ a ha; exact ha
        | cons t ts ih =>
          intro ht a ha
          refine ih (fun t' h' => ht t' (List.mem_cons_of_mem _ h')) _ ?_
          by_cases hf : fr pre t = true
          · simp only [if_pos hf]
            intro x hx
            rcases List.mem_append.1 hx with h | h
            · exact ha x h
            · exact tree_mem hG d _ _ (hG pre rest t hg (by omega) (ht t (List.mem_cons_self ..)) hf) (by simp; omega) x h
          · simp only [if_neg hf]; exact ha
      exact hfold _ (fun t ht => by have := List.mem_range.1 ht; omega) _ (by simp)
end
theorem treeR_mem {q : Query} (ho : okQueryB q = true) : ∀ x ∈ (treeR q).2, okPat x = true ∧ matchB q x = true := by
  obtain ⟨n, H, hqn, hqH, hn1, hn12, hH, hp0, hp15⟩ := okQuery_in ho
  have hn : q.period.toNat = n := by rw [hqn]; simp
  have hHH : q.high.toNat = H := by rw [hqH]; simp
  intro x hx
  unfold treeR at hx
  rw [hn, hHH, hqn] at hx
  obtain ⟨⟨left, hg⟩, hl, hm⟩ := tree_mem (G := Good q n) (good_step H hqH.symm) n [] _ (good_start q n) (by simp) x hx
  exact ⟨good_okPat hg hl hn1 hn12 (by rw [hqH]; omega), hm⟩

def bestF : List (List Int) → List Int → List Int
  | [], b => b
  | x :: l, b => bestF l (if hardL x < hardL b then x else b)
theorem bestF_step (l : List (List Int)) (b : List Int) (k : Nat) (h : k < l.length) : bestF (l.drop k) b = bestF (l.drop (k + 1)) (if hardL (nth l k) < hardL b then nth l k else b) := by
  rw [drop_nth l k h]; rfl
theorem bestF_mem : ∀ (l : List (List Int)) (b : List Int), bestF l b = b ∨ bestF l b ∈ l
  | [], b => .inl rfl
  | x :: l, b => by
    unfold bestF
    split
    · rcases bestF_mem l x with h | h
      · rw [h]; exact .inr (List.mem_cons_self ..)
      · exact .inr (List.mem_cons_of_mem _ h)
    · rcases bestF_mem l b with h | h
      · rw [h]; exact .inl rfl
      · exact .inr (List.mem_cons_of_mem _ h)
def easyCode (q : Query) : Int := if okQueryB q = true then (if searchCode q = 0 then (if (treeR q).2 = [] then 3 else 0) else searchCode q) else 1
def easyL (q : Query) : List Int := if easyCode q = 0 then bestF (treeR q).2 (nth (treeR q).2 0) else []
theorem easyCode_0 {q : Query} (h : easyCode q = 0) : okQueryB q = true ∧ searchCode q = 0 ∧ (treeR q).2 ≠ [] := by
  unfold easyCode at h
  split at h
  · rename_i h1
    split at h
    · rename_i h2
      split at h
      · exact absurd h (by decide)
      · rename_i h3; exact ⟨h1, h2, h3⟩
    · rename_i h2; exact absurd h h2
  · exact absurd h (by decide)
theorem easyL_mem {q : Query} (h : easyCode q = 0) : easyL q ∈ (treeR q).2 := by
  unfold easyL
  rw [if_pos h]
  have h3 := (easyCode_0 h).2.2
  have h0 : 0 < (treeR q).2.length := List.length_pos_iff.2 h3
  rcases bestF_mem (treeR q).2 (nth (treeR q).2 0) with e | e
  · rw [e]; exact mem_nth h0
  · exact e
theorem easyL_len (q : Query) : (easyL q).length ≤ 1099511627776 := by
  by_cases h : easyCode q = 0
  · have := treeR_len (easyCode_0 h).1 _ (easyL_mem h); omega
  · unfold easyL; rw [if_neg h]; simp
set_option maxRecDepth 100000 in
set_option maxHeartbeats 2000000 in
theorem sEasiestFound_c (q : Query) (y z : Value) (w : World) (hQ : QAt w q y z) :
    Calls Tryz.prog 10 #[.agg #[.int .i64 q.period, .int .i64 q.props, .int .i64 q.high, y, z, .bool q.canonical]] w (GivesIntsC (easyL q) (easyCode q) w) := by
  have HQ := Lib.hid hQ; clear hQ
  have HB := Lib.hid (BoxIs.new w [.int .i64 q.period, .int .i64 q.props, .int .i64 q.high, y, z, .bool q.canonical] 26)
  go_enter Tryz.func10, Tryz.ntmps10
  go_wp2_with fail
  have hb0 : Below w.heap.size w (w.alloc (.cells #[.int .i64 q.period, .int .i64 q.props, .int .i64 q.high, y, z, .bool q.canonical] 26)) := by go_grown
  generalize w.alloc (.cells #[.int .i64 q.period, .int .i64 q.props, .int .i64 q.high, y, z, .bool q.canonical] 26) = w0 at *
  refine (l21All_c q y z w.heap.size _ HB.out (HQ.out.below hb0)).mono ?_
  rintro e w1 ⟨hb1, ⟨hm, p, rfl⟩ | ⟨hm, b, rfl, hc⟩⟩
  · have HC : Hid (easyCode q = 1) := Lib.hid (by unfold easyCode; rw [hm]; rfl)
    have hb := bthen hb0 hb1
    clear hm
    go_wp2
    go_ret2
    exact GivesIntsC.none (by unfold easyL; rw [HC.out]; rfl) HC.out hb
  · have hb := bthen hb0 hb1
    have HB1 := Lib.hid (HB.out.below hb1)
    have HO := Lib.hid hm
    have HT : Hid (searchCode q = 0 → (treeR q).1 ≤ 20000) := Lib.hid (fun h => by
      rcases Nat.lt_or_ge 20000 (treeR q).1 with h2 | h2
      · rw [searchCode_5 hm h2] at h; exact absurd h (by decide)
      · exact h2)
    have HF : Hid (easyCode q = if searchCode q = 0 then (if (treeR q).2 = [] then 3 else 0) else searchCode q) := Lib.hid (by unfold easyCode; rw [if_pos hm])
    have HCc := Lib.hid hc
    clear hc hb1 hb0 HB hm
    generalize hsc : searchCode q = s at *
    clear hsc
    by_cases h0 : s = 0
    · subst h0
      have HT' := Lib.hid (HT.out rfl)
      have hc8 := (HCc.out rfl).2
      have HC : Hid (easyCode q = if (treeR q).2 = [] then 3 else 0) := Lib.hid HF.out
      clear HF HCc HT
      generalize hlen : (treeR q).2.length = n at *
      have Hlen := Lib.hid hlen
      clear hlen
      by_cases hn0 : n = 0
      · subst hn0
        have HC3 : Hid (easyCode q = 3) := Lib.hid (by rw [HC.out, if_pos (List.length_eq_zero_iff.1 Hlen.out)])
        go_wp2
        go_ret2
        exact GivesIntsC.none (by unfold easyL; rw [HC3.out]; rfl) HC3.out hb
      · have HC0 : Hid (easyCode q = 0) := Lib.hid (by rw [HC.out, if_neg (fun h => hn0 (by rw [← Hlen.out, h]; rfl))])
        have hne : ((n : Int) == 0) = false := beq_eq_false_iff_ne.2 (by omega)
        have HST : Hid (easyL q = bestF ((treeR q).2.drop 1) (nth (treeR q).2 0)) := Lib.hid (by
          unfold easyL; rw [HC0.out, if_pos rfl]
          have h := bestF_step (treeR q).2 (nth (treeR q).2 0) 0 (by rw [Hlen.out]; omega)
          rw [if_neg (Int.lt_irrefl _)] at h
          exact h)
        have HW := Lib.hid (l21Walk_c q y z (.slice none 0 0) [] (n : Int) w.heap.size w1 HB1.out (HQ.out.below hb) (ints_nil w1) (.inl rfl) HO.out)
        have hnpos : 0 < n := by omega
        clear hn0
        go_wp2_with fail
        refine HW.out.mono ?_
        rintro e w3 ⟨b', g', nv, ov, ps, rfl, hI, hF, hb3⟩
        clear HW hc8 hne
        obtain ⟨fa, fn, fc, rfl⟩ := hI.os
        have c7 := hI.box.c7
        have hO2 : OwnIntss w3 w.heap.size (.slice fa fn fc) (treeR q).2 := by
          have h1 := hI.found
          rw [hF, walked_take HO.out (by omega) (.inl rfl) HT'.out, behB_none, List.take_of_length_le (by rw [Hlen.out]; simp)] at h1
          exact h1.mono hb.size
        have hfnn : fn = n := by
          obtain ⟨_, _, _, e, en, _⟩ := hO2.at
          injection e with _ e2 _
          rw [← Hlen.out]; exact e2.trans en
        subst hfnn
        have hb4 := bthen hb hb3
        have hcp : fn ≤ 9223372036854775807 := by
          obtain ⟨_, _, _, e, _, h1, h2, _⟩ := hO2.at
          injection e with _ e2 e3
          omega
        clear hI hF hb hb3
        have HPT : Hid (∀ x ∈ (treeR q).2, throwsB x = true) := Lib.hid (fun x hx => okPat_throws (treeR_mem HO.out x hx).1)
        obtain ⟨ps2, hps2, hN⟩ := InIntss.of hO2
        have hfn : fn = ps2.length := by
          obtain ⟨_, _, e⟩ := slice_of_own hN.row.1
          injection e
        have hll : ps2.length = (treeR q).2.length := by rw [← hps2, List.length_map]
        have HN := Lib.hid hN
        have HPS := Lib.hid hps2
        have HFn := Lib.hid hfn
        have HLL := Lib.hid hll
        have HD := Lib.hid (fun W u l x t => l20Hard_c u l W x t)
        have HSL : Hid (∀ k, k < ps2.length → ∃ pa pn pc, (nth ps2 k).1 = .slice pa pn pc) := Lib.hid (fun k hk => hN.sl k hk)
        obtain ⟨g, hfa, _, _, _⟩ := hN.form (by omega)
        subst hfa
        obtain ⟨pa, pn, pc, hpv⟩ := hN.sl 0 (by omega)
        have e1 : w3.cell? ⟨g, 0, none⟩ = some (.slice pa pn pc) := by
          have h := hN.cellAt (i := 0) (j := 0) hfn (by omega) (by decide)
          rw [hpv, show 0 * intssS.k + 0 = 0 by simp [intssS]] at h; exact h
        have hx0 : (nth ps2 0).2 = nth (treeR q).2 0 := by
          rw [← hps2, nth_map _ _ _ (by omega)]
        have HIn0 : Hid (InInts w3 w.heap.size w3.heap.size (.slice pa pn pc) (nth (treeR q).2 0)) := Lib.hid (by
          have h := hN.pat 0 (by omega)
          rw [hpv] at h; rw [← hx0]; exact h)
        have HT0 : Hid (throwsB (nth (treeR q).2 0) = true) := Lib.hid (HPT.out _ (mem_nth (by omega)))
        have hfpos : 0 < fn := by omega
        clear hN hps2 hfn hll hO2 hpv hx0
        go_wp2
        go_loopw [7, 8] (fun bv i wr => ∃ (k : Nat) (ba : Option Addr) (bn bc : Nat) (x : List Int), i = .int .i64 k ∧ bv = .slice ba bn bc ∧ k ≤ fn ∧ Hid (InInts wr w.heap.size w3.heap.size (.slice ba bn bc) x) ∧ Hid (throwsB x = true) ∧ Hid (easyL q = bestF ((treeR q).2.drop k) x) ∧ Below w3.heap.size w3 wr) (fun _ i _ => fn - (intOf i).toNat)
        case atStart => exact ⟨1, pa, pn, pc, _, rfl, rfl, by omega, HIn0, HT0, HST, Below.refl _ _⟩
        case round =>
          obtain ⟨k, ba, bn, bc, x, rfl, rfl, hk, HB, HTx, HS, hbr⟩ := hrel
          clear e1 HIn0 HT0 HST
          by_cases hlt : k < fn
          · have hkp : k < ps2.length := by rw [← HFn.out]; exact hlt
            have hN' := HN.out.below hbr
            have hx : (nth ps2 k).2 = nth (treeR q).2 k := by
              rw [← HPS.out, nth_map _ _ _ hkp]
            obtain ⟨qa, qn, qc, hqv⟩ := HSL.out k hkp
            have e2 : wr.cell? ⟨g, k, none⟩ = some (.slice qa qn qc) := by
              have h := hN'.cellAt (i := k) (j := 0) HFn.out hkp (by decide)
              rw [hqv, show k * intssS.k + 0 = k by simp [intssS]] at h; exact h
            have hgs : g < wr.heap.size := (hN'.row.1.lt g rfl).2
            have HG := Lib.hid hgs
            have E2 := Lib.hid e2
            have HIk : Hid (InInts wr w.heap.size w3.heap.size (.slice qa qn qc) (nth (treeR q).2 k)) := Lib.hid (by
              have h := hN'.pat k hkp
              rw [hqv] at h; rw [← hx]; exact h)
            have HTk : Hid (throwsB (nth (treeR q).2 k) = true) := Lib.hid (HPT.out _ (mem_nth (by rw [← HLL.out]; exact hkp)))
            have HT : Hid (easyL q = bestF ((treeR q).2.drop (k + 1)) (if hardL (nth (treeR q).2 k) < hardL x then nth (treeR q).2 k else x)) := Lib.hid (by rw [HS.out, bestF_step _ _ _ (by rw [← HLL.out]; exact hkp)])
            clear hN' hx hqv HS hkp hgs
            generalize nth (treeR q).2 k = y at *
            have HC1 := Lib.hid (HD.out wr (.slice qa qn qc) y HIk.out.at HTk.out)
            have HC2 := Lib.hid (fun W (hW : Below wr.heap.size wr W) => HD.out W (.slice ba bn bc) x (HB.out.below hW).at HTx.out)
            generalize hardL y = h1 at *
            generalize hardL x = h2 at *
            by_cases hh : h1 < h2
            · have HT2 : Hid (easyL q = bestF ((treeR q).2.drop (k + 1)) y) := Lib.hid (by rw [HT.out, if_pos hh])
              have hd : decide (h1 < h2) = true := decide_eq_true hh
              clear hh HT
              go_wp2_with fail
              refine HC1.out.mono ?_
              rintro e w5 ⟨rfl, hb5⟩
              go_wp2_with fail
              refine (HC2.out _ hb5).mono ?_
              rintro e w6 ⟨rfl, hb6⟩
              have hb56 := bthen hb5 hb6
              have e3 := cell_then HG.out E2.out hb56
              clear e2
              go_wp2
              exact ⟨⟨k + 1, qa, qn, qc, y, by go_num, rfl, hlt, Lib.hid (HIk.out.below hb56), HTk, HT2, bthen hbr hb56⟩, by simp [intOf]; omega⟩
            · have HT2 : Hid (easyL q = bestF ((treeR q).2.drop (k + 1)) x) := Lib.hid (by rw [HT.out, if_neg hh])
              have hd : decide (h1 < h2) = false := decide_eq_false hh
              clear hh HT
              go_wp2_with fail
              refine HC1.out.mono ?_
              rintro e w5 ⟨rfl, hb5⟩
              go_wp2_with fail
              refine (HC2.out _ hb5).mono ?_
              rintro e w6 ⟨rfl, hb6⟩
              have hb56 := bthen hb5 hb6
              clear e2
              go_wp2
              exact ⟨⟨k + 1, ba, bn, bc, x, by go_num, rfl, hlt, Lib.hid (HB.out.below hb56), HTx, HT2, bthen hbr hb56⟩, by simp [intOf]; omega⟩
          · obtain rfl : k = fn := by omega
            have HO3 : Hid (OwnInts wr w.heap.size (.slice ba bn bc) (easyL q)) := Lib.hid (by
              rw [HS.out, drop_end _ k k (by rw [HFn.out, HLL.out]) (Nat.le_refl _)]
              exact HB.out.1)
            clear HB HS
            go_wp2
            go_ret2
            exact GivesIntsC.mk HC0.out HO3.out (bthen hb4 hbr)
    · have H0 := Lib.hid h0
      have hne : (s == 0) = false := beq_eq_false_iff_ne.2 h0
      have HC : Hid (easyCode q = s) := Lib.hid (by rw [HF.out, if_neg h0])
      clear h0 HCc
      go_wp2
      go_ret2
      exact GivesIntsC.none (by unfold easyL; rw [HC.out, if_neg H0.out]) HC.out hb
set_option maxRecDepth 100000 in
set_option maxHeartbeats 2000000 in
theorem iEasiestFound_c (q : Query) (y z : Value) (w : World) (hQ : QAt w q y z) :
    Calls Tryz.prog 9 #[.agg #[.int .i64 q.period, .int .i64 q.props, .int .i64 q.high, y, z, .bool q.canonical]] w (GivesIntsC (easyL q) (easyCode q) w) := by
  have HQ := Lib.hid hQ; clear hQ
  have HK1 := Lib.hid (fun W x => iValidQuery_c q y z W x)
  have HK2 := Lib.hid (fun W x h => searched_c q y z W x h)
  have HF : Hid (easyCode q = if okQueryB q = true then (if searchCode q = 0 then (if (treeR q).2 = [] then 3 else 0) else searchCode q) else 1) := Lib.hid rfl
  generalize hm : okQueryB q = m at *
  cases m
  · have HC : Hid (easyCode q = 1) := Lib.hid HF.out
    clear hm HK2
    go_enter Tryz.func9, Tryz.ntmps9
    go_wp2_with fail
    refine (HK1.out _ (HQ.out.below (by go_grown))).mono ?_
    rintro e w1 ⟨rfl, hb1⟩
    have hb := bthen (by go_grown : Below w.heap.size w _) hb1
    go_wp2
    go_ret2
    exact GivesIntsC.none (by unfold easyL; rw [HC.out]; rfl) HC.out hb
  · have HO := Lib.hid hm
    clear hm
    go_enter Tryz.func9, Tryz.ntmps9
    go_wp2_with fail
    refine (HK1.out _ (HQ.out.below (by go_grown))).mono ?_
    rintro e w1 ⟨rfl, hb1⟩
    have hb := bthen (by go_grown : Below w.heap.size w _) hb1
    have HB := Lib.hid ((BoxIs.new w [.int .i64 q.period, .int .i64 q.props, .int .i64 q.high, y, z, .bool q.canonical] 26).below hb1)
    obtain ⟨e0, f0⟩ := HB.out.cells
    clear hb1
    go_wp2_with fail
    refine (HK2.out _ (HQ.out.below hb) trivial).mono ?_
    rintro e w3 ⟨hb3, ⟨hv, rfl⟩ | ⟨hv, b, lv, fv, ps, rfl, hI, hF⟩⟩
    · have HC5 : Hid (searchCode q = 5) := Lib.hid (searchCode_5 HO.out (by
        rcases Nat.lt_or_ge 20000 (treeR q).1 with h | h
        · exact h
        · have := search_tree.1 h; rw [this] at hv; dsimp only at hv; omega))
      have HC : Hid (easyCode q = 5) := Lib.hid (by rw [HF.out]; simp [HC5.out])
      clear hv HK1 HK2 HB e0 f0
      go_wp2
      go_ret2
      exact GivesIntsC.none (by unfold easyL; rw [HC.out]; rfl) HC.out (bthen hb hb3)
    · have ht : (treeR q).1 ≤ 20000 := by
        rcases Nat.lt_or_ge 20000 (treeR q).1 with h | h
        · have := search_tree.2 h; omega
        · exact h
      have HS0 : Hid (searchCode q = 0) := Lib.hid (searchCode_0 HO.out ht)
      have HC : Hid (easyCode q = if (treeR q).2 = [] then 3 else 0) := Lib.hid (by rw [HF.out]; simp [HS0.out])
      have hS := search_tree.1 ht
      obtain ⟨fa, fn, fc, rfl⟩ := hI.fs
      have hO := hI.found
      rw [hF, hS] at hO
      have hO2 : OwnIntss w3 w.heap.size (.slice fa fn fc) (treeR q).2 := hO.mono hb.size
      have hcp : fn ≤ 9223372036854775807 := by
        obtain ⟨_, _, _, e, _, h1, h2, _⟩ := hO2.at
        injection e with _ e2 e3
        omega
      have hlen : fn = (treeR q).2.length := by
        obtain ⟨_, _, _, e, en, _⟩ := hO2.at
        injection e with _ e2 _
        exact e2.trans en
      have Hlen := Lib.hid hlen
      have c20 := hI.box.c20
      have hb4 := bthen hb hb3
      clear hv HK1 HK2 HB e0 f0 hI hF hS ht hO hlen hb hb3 HF
      by_cases hn0 : fn = 0
      · subst hn0
        have HC3 : Hid (easyCode q = 3) := Lib.hid (by rw [HC.out, if_pos (List.length_eq_zero_iff.1 Hlen.out.symm)])
        clear hO2
        go_wp2
        go_ret2
        exact GivesIntsC.none (by unfold easyL; rw [HC3.out]; rfl) HC3.out hb4
      · have HC0 : Hid (easyCode q = 0) := Lib.hid (by rw [HC.out, if_neg (fun h => hn0 (by rw [Hlen.out, h]; rfl))])
        have hne : ((fn : Int) == 0) = false := beq_eq_false_iff_ne.2 (by omega)
        have HST : Hid (easyL q = bestF ((treeR q).2.drop 0) (nth (treeR q).2 0)) := Lib.hid (by unfold easyL; rw [HC0.out, if_pos rfl]; rfl)
        have hnpos : 0 < fn := by omega
        clear hn0
        have HPT : Hid (∀ x ∈ (treeR q).2, throwsB x = true) := Lib.hid (fun x hx => okPat_throws (treeR_mem HO.out x hx).1)
        obtain ⟨ps2, hps2, hN⟩ := InIntss.of hO2
        have hfn : fn = ps2.length := by
          obtain ⟨_, _, e⟩ := slice_of_own hN.row.1
          injection e
        have hll : ps2.length = (treeR q).2.length := by rw [← hps2, List.length_map]
        have HN := Lib.hid hN
        have HPS := Lib.hid hps2
        have HFn := Lib.hid hfn
        have HLL := Lib.hid hll
        have HD := Lib.hid (fun W u l x t => difficulty_c u l W x t)
        have HSL : Hid (∀ k, k < ps2.length → ∃ pa pn pc, (nth ps2 k).1 = .slice pa pn pc) := Lib.hid (fun k hk => hN.sl k hk)
        obtain ⟨g, hfa, _, _, _⟩ := hN.form (by omega)
        subst hfa
        obtain ⟨pa, pn, pc, hpv⟩ := hN.sl 0 (by omega)
        have e1 : w3.cell? ⟨g, 0, none⟩ = some (.slice pa pn pc) := by
          have h := hN.cellAt (i := 0) (j := 0) hfn (by omega) (by decide)
          rw [hpv, show 0 * intssS.k + 0 = 0 by simp [intssS]] at h; exact h
        have hx0 : (nth ps2 0).2 = nth (treeR q).2 0 := by
          rw [← hps2, nth_map _ _ _ (by omega)]
        have HIn0 : Hid (InInts w3 w.heap.size w3.heap.size (.slice pa pn pc) (nth (treeR q).2 0)) := Lib.hid (by
          have h := hN.pat 0 (by omega)
          rw [hpv] at h; rw [← hx0]; exact h)
        have HT0 : Hid (throwsB (nth (treeR q).2 0) = true) := Lib.hid (HPT.out _ (mem_nth (by omega)))
        have hfpos : 0 < fn := by omega
        clear hN hps2 hfn hll hO2 hpv hx0
        go_wp2
        go_loopw [6, 37] (fun bv i wr => ∃ (k : Nat) (ba : Option Addr) (bn bc : Nat) (x : List Int), i = .int .i64 k ∧ bv = .slice ba bn bc ∧ k ≤ fn ∧ Hid (InInts wr w.heap.size w3.heap.size (.slice ba bn bc) x) ∧ Hid (throwsB x = true) ∧ Hid (easyL q = bestF ((treeR q).2.drop k) x) ∧ Below w3.heap.size w3 wr) (fun _ i _ => fn - (intOf i).toNat)
        case atStart => exact ⟨0, pa, pn, pc, _, rfl, rfl, by omega, HIn0, HT0, HST, Below.refl _ _⟩
        case round =>
          obtain ⟨k, ba, bn, bc, x, rfl, rfl, hk, HB, HTx, HS, hbr⟩ := hrel
          clear e1 HIn0 HT0 HST
          by_cases hlt : k < fn
          · have hkp : k < ps2.length := by rw [← HFn.out]; exact hlt
            have hN' := HN.out.below hbr
            have hx : (nth ps2 k).2 = nth (treeR q).2 k := by
              rw [← HPS.out, nth_map _ _ _ hkp]
            obtain ⟨qa, qn, qc, hqv⟩ := HSL.out k hkp
            have e2 : wr.cell? ⟨g, k, none⟩ = some (.slice qa qn qc) := by
              have h := hN'.cellAt (i := k) (j := 0) HFn.out hkp (by decide)
              rw [hqv, show k * intssS.k + 0 = k by simp [intssS]] at h; exact h
            have hgs : g < wr.heap.size := (hN'.row.1.lt g rfl).2
            have HG := Lib.hid hgs
            have E2 := Lib.hid e2
            have HIk : Hid (InInts wr w.heap.size w3.heap.size (.slice qa qn qc) (nth (treeR q).2 k)) := Lib.hid (by
              have h := hN'.pat k hkp
              rw [hqv] at h; rw [← hx]; exact h)
            have HTk : Hid (throwsB (nth (treeR q).2 k) = true) := Lib.hid (HPT.out _ (mem_nth (by rw [← HLL.out]; exact hkp)))
            have HT : Hid (easyL q = bestF ((treeR q).2.drop (k + 1)) (if hardL (nth (treeR q).2 k) < hardL x then nth (treeR q).2 k else x)) := Lib.hid (by rw [HS.out, bestF_step _ _ _ (by rw [← HLL.out]; exact hkp)])
            clear hN' hx hqv HS hkp hgs
            generalize nth (treeR q).2 k = y at *
            have HC1 := Lib.hid (HD.out wr (.slice qa qn qc) y HIk.out.at HTk.out)
            have HC2 := Lib.hid (fun W (hW : Below wr.heap.size wr W) => HD.out W (.slice ba bn bc) x (HB.out.below hW).at HTx.out)
            generalize hardL y = h1 at *
            generalize hardL x = h2 at *
            by_cases hh : h1 < h2
            · have HT2 : Hid (easyL q = bestF ((treeR q).2.drop (k + 1)) y) := Lib.hid (by rw [HT.out, if_pos hh])
              have hd : decide (h1 < h2) = true := decide_eq_true hh
              clear hh HT
              go_wp2_with fail
              refine HC1.out.mono ?_
              rintro e w5 ⟨rfl, hb5⟩
              go_wp2_with fail
              refine (HC2.out _ hb5).mono ?_
              rintro e w6 ⟨rfl, hb6⟩
              have hb56 := bthen hb5 hb6
              have e3 := cell_then HG.out E2.out hb56
              clear e2
              go_wp2
              exact ⟨⟨k + 1, qa, qn, qc, y, by go_num, rfl, hlt, Lib.hid (HIk.out.below hb56), HTk, HT2, bthen hbr hb56⟩, by simp [intOf]; omega⟩
            · have HT2 : Hid (easyL q = bestF ((treeR q).2.drop (k + 1)) x) := Lib.hid (by rw [HT.out, if_neg hh])
              have hd : decide (h1 < h2) = false := decide_eq_false hh
              clear hh HT
              go_wp2_with fail
              refine HC1.out.mono ?_
              rintro e w5 ⟨rfl, hb5⟩
              go_wp2_with fail
              refine (HC2.out _ hb5).mono ?_
              rintro e w6 ⟨rfl, hb6⟩
              have hb56 := bthen hb5 hb6
              clear e2
              go_wp2
              exact ⟨⟨k + 1, ba, bn, bc, x, by go_num, rfl, hlt, Lib.hid (HB.out.below hb56), HTx, HT2, bthen hbr hb56⟩, by simp [intOf]; omega⟩
          · obtain rfl : k = fn := by omega
            have HO3 : Hid (OwnInts wr w.heap.size (.slice ba bn bc) (easyL q)) := Lib.hid (by
              rw [HS.out, drop_end _ k k (by rw [HFn.out, HLL.out]) (Nat.le_refl _)]
              exact HB.out.1)
            clear HB HS
            go_wp2
            go_ret2
            exact GivesIntsC.mk HC0.out HO3.out (bthen hb4 hbr)
end Go.Proofs.YtclffohjpbmnbaaGreatDoor
