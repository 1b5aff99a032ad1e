import Derived.Test.YtcgbdhbdlnimhaaGreatMg40
/- ItemAdd2: AddItem, by both packages. -/
namespace Go.Proofs.YtcgbdhbdlnimhaaGreat
open Go.ChangeShapes Go.WideShapes Go.ChangeAt Go.RowKit

def addItCode (l : List Item) (s : ByteArray) (p : List Int) : Int := if okItems l = true then (if okPat p = true then (if nameB (chars s) = true then (if findI (isNm s) l = -1 then (if findI (isPt (canL p)) l = -1 then (if l.length = 60 then 5 else 0) else 4) else 4) else 7) else 1) else 1
def addItL (l : List Item) (s : ByteArray) (p : List Int) : List Item := if addItCode l s p = 0 then insB (ltN Item.name) l ⟨s, canL p⟩ else []
theorem addItL_nil {l : List Item} {s : ByteArray} {p : List Int} {c : Int} (h : addItCode l s p = c) (hc : c ≠ 0) : addItL l s p = [] := by unfold addItL; rw [h, if_neg hc]
theorem findI_none' {f : Item → Bool} {l : List Item} (h : findI f l = -1) : ∀ x ∈ l, f x = false := by
  intro x hx
  cases hfx : f x
  · rfl
  · obtain ⟨i, hi, rfl⟩ := List.getElem_of_mem hx
    unfold findI at h
    split at h
    · omega
    · rename_i h2
      rw [List.findIdx?_eq_none_iff] at h2
      have := h2 _ hx
      rw [hfx] at this; exact absurd this (by decide)
theorem canL_len' {p : List Int} (h : okPat p = true) : (canL p).length ≤ 1048576 := by
  rw [canL_len]
  have h1 := (okPat_len h).2
  have h2 := rootK_le p
  omega
theorem addItL_ok (l : List Item) (s : ByteArray) (p : List Int) : (addItL l s p).length ≤ 1048576 ∧ ∀ x ∈ addItL l s p, x.pattern.length ≤ 1048576 := by
  unfold addItL
  split
  · rename_i h
    unfold addItCode at h
    split at h
    · rename_i h1
      split at h
      · rename_i h2
        have h60 := okItems_len h1
        have hp := okItems_pat h1
        refine ⟨by rw [insB_len]; omega, fun x hx => ?_⟩
        have hx' := (insB_perm (ltN Item.name) l ⟨s, canL p⟩).mem_iff.1 hx
        rcases List.mem_cons.1 hx' with rfl | hx'
        · have := canL_len' h2; exact this
        · have := (okPat_len (hp x hx')).2; omega
      · exact absurd h (by decide)
    · exact absurd h (by decide)
  · exact ⟨by simp, fun x hx => absurd hx List.not_mem_nil⟩

set_option maxRecDepth 100000 in
set_option maxHeartbeats 4000000 in
theorem sAddItem_c (v u : Value) (l : List Item) (s : ByteArray) (p : List Int) (w : World) (hv : ItemsAt w v l) (hu : IntsAt w u p) (hs : s.size ≤ 9223372036854775807) : Calls Tryz.prog 8 #[v, .string s, u] w (GivesItemsC (addItL l s p) (addItCode l s p) w) := by
  have HV := Lib.hid hv
  have HU := Lib.hid hu
  have K1 := Lib.hid (l22Ok_c v l w hv)
  have K2 := Lib.hid (fun W x => l02Ok_c u p W x)
  have K3 := Lib.hid (fun W => sIsName_c s W hs)
  have K5 := Lib.hid (fun W x => l22Find_c v l s W x)
  have K6 := Lib.hid (fun W z x y => l22Like_c v z l (canL p) W x y)
  have HC : Hid (addItCode l s p = if okItems l = true then (if okPat p = true then (if nameB (chars s) = true then (if findI (isNm s) l = -1 then (if findI (isPt (canL p)) l = -1 then (if l.length = 60 then 5 else 0) else 4) else 4) else 7) else 1) else 1) := Lib.hid rfl
  obtain ⟨a, n, cap, rfl, hn, hl, hm, hc⟩ := hv
  have Hc := Lib.hid hc; clear hc
  have Hn := Lib.hid hn; clear hn
  obtain ⟨ua, un, uc, rfl, -⟩ := hu
  obtain ⟨b1, hE1⟩ : ∃ b, okItems l = b := ⟨_, rfl⟩
  obtain ⟨b2, hE2⟩ : ∃ b, okPat p = b := ⟨_, rfl⟩
  rw [hE1] at K1 HC
  rw [hE2] at K2 HC
  have HE1 := Lib.hid hE1
  have HE2 := Lib.hid hE2
  clear hE1 hE2
  generalize nameB (chars s) = b3 at *
  go_enter Tryz.func8, Tryz.ntmps8
  go_wp2_with fail
  refine K1.out.mono ?_
  rintro e w1 ⟨rfl, hb1⟩
  clear K1
  cases b1
  · have HC1 : Hid (addItCode l s p = 1) := Lib.hid HC.out
    clear HC K2 K3 K5 K6
    go_wp2
    go_ret2
    exact GivesItemsC.none (addItL_nil HC1.out (by decide)) HC1.out hb1
  have hn60 : n ≤ 60 := by rw [Hn.out]; exact okItems_len HE1.out
  go_wp2_with fail
  refine (K2.out _ (HU.out.below hb1)).mono ?_
  rintro e w2 ⟨rfl, hb2⟩
  clear K2
  have hb' := bthen hb1 hb2
  clear hb1 hb2
  cases b2
  · have HC1 : Hid (addItCode l s p = 1) := Lib.hid HC.out
    clear HC K3 K5 K6
    go_wp2
    go_ret2
    exact GivesItemsC.none (addItL_nil HC1.out (by decide)) HC1.out hb'
  go_wp2_with fail
  refine (K3.out _).mono ?_
  rintro e w3 ⟨rfl, hb3⟩
  clear K3
  have hb := bthen hb' hb3
  clear hb' hb3
  cases b3
  · have HC1 : Hid (addItCode l s p = 7) := Lib.hid HC.out
    clear HC K5 K6
    go_wp2
    go_ret2
    exact GivesItemsC.none (addItL_nil HC1.out (by decide)) HC1.out hb
  go_wp2_with fail
  refine (canonicalPattern_c _ p _ (HU.out.below hb) HE2.out).mono ?_
  rintro e w4 ⟨a3, n3, c3, rfl, o3, hb4⟩
  have HC3 := Lib.hid (OwnInts.at o3)
  clear o3
  have hb' := bthen hb hb4
  clear hb hb4
  go_wp2_with fail
  refine (K5.out _ (HV.out.below hb')).mono ?_
  rintro e w5 ⟨rfl, hb5⟩
  clear K5
  rcases findI_cases (isNm s) l with hf | ⟨kf, hf, hkf, -, -⟩
  rotate_left
  · have HC1 : Hid (addItCode l s p = 4) := Lib.hid (by rw [HC.out, if_pos trivial, if_pos trivial, if_pos trivial, if_neg (by rw [hf]; omega)])
    rw [hf]
    have hge : decide ((kf : Int) ≥ 0) = true := decide_eq_true (by omega)
    clear HC hf hkf K6
    go_wp2
    go_ret2
    exact GivesItemsC.none (addItL_nil HC1.out (by decide)) HC1.out (bthen hb' hb5)
  have HF1 := Lib.hid hf
  rw [hf]
  clear hf
  have HC4 := Lib.hid (HC3.out.below hb5)
  clear HC3
  have hb := bthen hb' hb5
  clear hb' hb5
  go_wp2_with fail
  refine (K6.out _ _ (HV.out.below hb) HC4.out).mono ?_
  rintro e w6 ⟨rfl, hb6⟩
  clear K6
  have HC5 := Lib.hid (HC4.out.below hb6)
  clear HC4
  have hb' := bthen hb hb6
  clear hb hb6
  rcases findI_cases (isPt (canL p)) l with hf | ⟨kf, hf, hkf, -, -⟩
  rotate_left
  · have HC1 : Hid (addItCode l s p = 4) := Lib.hid (by rw [HC.out, if_pos trivial, if_pos trivial, if_pos trivial, if_pos HF1.out, if_neg (by rw [hf]; omega)])
    rw [hf]
    have hge : decide ((kf : Int) ≥ 0) = true := decide_eq_true (by omega)
    clear HC hf hkf
    go_wp2
    go_ret2
    exact GivesItemsC.none (addItL_nil HC1.out (by decide)) HC1.out hb'
  have HC2 : Hid (addItCode l s p = if l.length = 60 then 5 else 0) := Lib.hid (by rw [HC.out, if_pos trivial, if_pos trivial, if_pos trivial, if_pos HF1.out, if_pos hf])
  rw [hf]
  clear HC hf
  by_cases h60 : n = 60
  · subst h60
    have HC1 : Hid (addItCode l s p = 5) := Lib.hid (by rw [HC2.out, if_pos Hn.out.symm])
    clear HC2
    go_wp2
    go_ret2
    exact GivesItemsC.none (addItL_nil HC1.out (by decide)) HC1.out hb'
  have HC1 : Hid (addItCode l s p = 0) := Lib.hid (by rw [HC2.out, if_neg (by rw [← Hn.out]; exact h60)])
  have HA : Hid (addItL l s p = insB (ltN Item.name) l ⟨s, canL p⟩) := Lib.hid (by unfold addItL; rw [if_pos HC1.out])
  have HKL : Hid ((insB (ltN Item.name) l ⟨s, canL p⟩).length ≤ 1048576 ∧ ∀ x ∈ insB (ltN Item.name) l ⟨s, canL p⟩, x.pattern.length ≤ 1048576) := Lib.hid (by rw [← HA.out]; exact addItL_ok l s p)
  have h60' : n < 60 := by omega
  clear HC2 h60
  have hlt60 : decide ((n : Int) ≥ 60) = false := decide_eq_false (by omega)
  go_wp2_with fail
  refine (l22Put_c _ a3 n3 c3 l ⟨s, canL p⟩ w6 (HV.out.below hb') HC5.out hs (by rw [← Hn.out]; omega)).mono ?_
  rintro e w7 ⟨a7, n7, c7, rfl, hi7, hb7⟩
  have HI := Lib.hid hi7
  clear hi7
  go_wp2_with fail
  refine (l22Own_c _ _ _ HI.out HKL.out.1 HKL.out.2).mono ?_
  rintro e w8 ⟨a8, n8, c8, rfl, o8, hb8⟩
  have hb := bthen hb' hb7
  have HO8 : Hid (OwnItems w8 w.heap.size (.slice a8 n8 c8) (addItL l s p)) := Lib.hid (by rw [HA.out]; exact OwnNest.mono o8 hb.size)
  clear o8
  go_wp2
  go_ret2
  exact GivesItemsC.mk HC1.out HO8.out (bthen hb hb8)
set_option maxRecDepth 100000 in
set_option maxHeartbeats 4000000 in
theorem iAddItem_c (v u : Value) (l : List Item) (s : ByteArray) (p : List Int) (w : World) (hv : ItemsAt w v l) (hu : IntsAt w u p) (hs : s.size ≤ 9223372036854775807) : Calls Tryz.prog 7 #[v, .string s, u] w (GivesItemsC (addItL l s p) (addItCode l s p) w) := by
  have HV := Lib.hid hv
  have HU := Lib.hid hu
  have K1 := Lib.hid (iValidItems_c v l w hv)
  have K2 := Lib.hid (fun W x => validPattern_c u p W x)
  have K3 := Lib.hid (fun W => iIsName_c s W hs)
  have K5 := Lib.hid (fun W x => itemNamed_c v l s W x)
  have K6 := Lib.hid (fun W z x y => itemWith_c v z l (canL p) W x y)
  have HC : Hid (addItCode l s p = if okItems l = true then (if okPat p = true then (if nameB (chars s) = true then (if findI (isNm s) l = -1 then (if findI (isPt (canL p)) l = -1 then (if l.length = 60 then 5 else 0) else 4) else 4) else 7) else 1) else 1) := Lib.hid rfl
  obtain ⟨a, n, cap, rfl, hn, hl, hm, hc⟩ := hv
  have Hc := Lib.hid hc; clear hc
  have Hn := Lib.hid hn; clear hn
  obtain ⟨ua, un, uc, rfl, -⟩ := hu
  obtain ⟨b1, hE1⟩ : ∃ b, okItems l = b := ⟨_, rfl⟩
  obtain ⟨b2, hE2⟩ : ∃ b, okPat p = b := ⟨_, rfl⟩
  rw [hE1] at K1 HC
  rw [hE2] at K2 HC
  have HE1 := Lib.hid hE1
  have HE2 := Lib.hid hE2
  clear hE1 hE2
  generalize nameB (chars s) = b3 at *
  go_enter Tryz.func7, Tryz.ntmps7
  go_wp2_with fail
  refine K1.out.mono ?_
  rintro e w1 ⟨rfl, hb1⟩
  clear K1
  cases b1
  · have HC1 : Hid (addItCode l s p = 1) := Lib.hid HC.out
    clear HC K2 K3 K5 K6
    go_wp2
    go_ret2
    exact GivesItemsC.none (addItL_nil HC1.out (by decide)) HC1.out hb1
  have hn60 : n ≤ 60 := by rw [Hn.out]; exact okItems_len HE1.out
  go_wp2_with fail
  refine (K2.out _ (HU.out.below hb1)).mono ?_
  rintro e w2 ⟨rfl, hb2⟩
  clear K2
  have hb' := bthen hb1 hb2
  clear hb1 hb2
  cases b2
  · have HC1 : Hid (addItCode l s p = 1) := Lib.hid HC.out
    clear HC K3 K5 K6
    go_wp2
    go_ret2
    exact GivesItemsC.none (addItL_nil HC1.out (by decide)) HC1.out hb'
  go_wp2_with fail
  refine (K3.out _).mono ?_
  rintro e w3 ⟨rfl, hb3⟩
  clear K3
  have hb := bthen hb' hb3
  clear hb' hb3
  cases b3
  · have HC1 : Hid (addItCode l s p = 7) := Lib.hid HC.out
    clear HC K5 K6
    go_wp2
    go_ret2
    exact GivesItemsC.none (addItL_nil HC1.out (by decide)) HC1.out hb
  go_wp2_with fail
  refine (canonical_c _ p _ (HU.out.below hb) (okPat_len HE2.out).1 (okPat_len HE2.out).2).mono ?_
  rintro e w4 ⟨a3, n3, c3, rfl, o3, hb4⟩
  have HC3 := Lib.hid (OwnInts.at o3)
  clear o3
  have hb' := bthen hb hb4
  clear hb hb4
  go_wp2_with fail
  refine (K5.out _ (HV.out.below hb')).mono ?_
  rintro e w5 ⟨rfl, hb5⟩
  clear K5
  rcases findI_cases (isNm s) l with hf | ⟨kf, hf, hkf, -, -⟩
  rotate_left
  · have HC1 : Hid (addItCode l s p = 4) := Lib.hid (by rw [HC.out, if_pos trivial, if_pos trivial, if_pos trivial, if_neg (by rw [hf]; omega)])
    rw [hf]
    have hge : decide ((kf : Int) ≥ 0) = true := decide_eq_true (by omega)
    clear HC hf hkf K6
    go_wp2
    go_ret2
    exact GivesItemsC.none (addItL_nil HC1.out (by decide)) HC1.out (bthen hb' hb5)
  have HF1 := Lib.hid hf
  rw [hf]
  clear hf
  have HC4 := Lib.hid (HC3.out.below hb5)
  clear HC3
  have hb := bthen hb' hb5
  clear hb' hb5
  go_wp2_with fail
  refine (K6.out _ _ (HV.out.below hb) HC4.out).mono ?_
  rintro e w6 ⟨rfl, hb6⟩
  clear K6
  have HC5 := Lib.hid (HC4.out.below hb6)
  clear HC4
  have hb' := bthen hb hb6
  clear hb hb6
  rcases findI_cases (isPt (canL p)) l with hf | ⟨kf, hf, hkf, -, -⟩
  rotate_left
  · have HC1 : Hid (addItCode l s p = 4) := Lib.hid (by rw [HC.out, if_pos trivial, if_pos trivial, if_pos trivial, if_pos HF1.out, if_neg (by rw [hf]; omega)])
    rw [hf]
    have hge : decide ((kf : Int) ≥ 0) = true := decide_eq_true (by omega)
    clear HC hf hkf
    go_wp2
    go_ret2
    exact GivesItemsC.none (addItL_nil HC1.out (by decide)) HC1.out hb'
  have HC2 : Hid (addItCode l s p = if l.length = 60 then 5 else 0) := Lib.hid (by rw [HC.out, if_pos trivial, if_pos trivial, if_pos trivial, if_pos HF1.out, if_pos hf])
  rw [hf]
  clear HC hf
  by_cases h60 : n = 60
  · subst h60
    have HC1 : Hid (addItCode l s p = 5) := Lib.hid (by rw [HC2.out, if_pos Hn.out.symm])
    clear HC2
    go_wp2
    go_ret2
    exact GivesItemsC.none (addItL_nil HC1.out (by decide)) HC1.out hb'
  have HC1 : Hid (addItCode l s p = 0) := Lib.hid (by rw [HC2.out, if_neg (by rw [← Hn.out]; exact h60)])
  have HA : Hid (addItL l s p = insB (ltN Item.name) l ⟨s, canL p⟩) := Lib.hid (by unfold addItL; rw [if_pos HC1.out])
  have HKL : Hid ((insB (ltN Item.name) l ⟨s, canL p⟩).length ≤ 1048576 ∧ ∀ x ∈ insB (ltN Item.name) l ⟨s, canL p⟩, x.pattern.length ≤ 1048576) := Lib.hid (by rw [← HA.out]; exact addItL_ok l s p)
  have h60' : n < 60 := by omega
  clear HC2 h60
  have hlt60 : ((n : Int) == 60) = false := beq_eq_false_iff_ne.2 (by omega)
  go_wp2_with fail
  refine (copyItems_c _ l w6 (HV.out.below hb') (by rw [← Hn.out]; omega) (fun x hx => by have := (okPat_len (okItems_pat HE1.out x hx)).2; omega)).mono ?_
  rintro e w7 ⟨a7, n7, c7, rfl, o7, hb7⟩
  obtain ⟨ps, hps, hN⟩ := InNest.of o7
  have HN := Lib.hid hN
  have Hps := Lib.hid hps
  have hlen : ps.length = n := by rw [Hn.out, ← Hps.out]; simp
  have HC6 := Lib.hid (HC5.out.below hb7)
  clear o7 hps hN
  go_wp2_with fail
  refine (copyNumbers_c _ (canL p) w7 HC6.out (canL_len' HE2.out)).mono ?_
  rintro e w8 ⟨a8, n8, c8, rfl, o8, hb8⟩
  have HI : Hid (InInts w8 w7.heap.size w8.heap.size (.slice a8 n8 c8) (canL p)) := Lib.hid (InInts.of o8)
  have HN8 := Lib.hid (HN.out.below hb8)
  have hs7 := hb7.size
  have hs8 := hb8.size
  clear o8
  go_wp2_with (at_builtin; refine wpList_app_items rfl _ _ rfl w6.heap.size _ ps.length _ rfl (HN8.out.below (go_below_alloc _ _)).row.1 _ 1 1 [.string s, .slice a8 n8 c8] rfl (item_new _ _ _ _) (by intro y hy; simp at hy; rcases hy with rfl | rfl <;> rfl) (by omega) (by simp; omega) ?_)
  intro a9 n9 c9 w9 hn9 ho9 hg9 hl9
  have hb9 : Below w6.heap.size w6 w9 := ((bthen hb7 hb8).alloc (by omega) _).grown hg9 (by simp; omega) (fun g hg => (HN8.out.row.1.lt g hg).1)
  have HO9 : Hid (OwnItems w9 w6.heap.size (.slice a9 n9 c9) (l ++ [⟨s, canL p⟩])) := Lib.hid (by
    have h := nest_snoc (x := (⟨s, canL p⟩ : Item)) (HN8.out.below (go_below_alloc _ _)) (HI.out.below (go_below_alloc _ _)) hs7 ⟨_, _, _, rfl⟩ hs (by simp; omega) (by rw [hlen]; exact ho9) hg9 (by simpa using hl9)
    rw [Hps.out] at h
    exact h)
  clear ho9 hg9 hl9 hn9
  have hs9 := hb9.size
  go_wp2_with fail
  refine (sortItems_c a9 n9 c9 _ w9 w6.heap.size HO9.out (by have := Hn.out; simp; omega) hs9).mono ?_
  rintro e w10 ⟨rfl, l', p1, p2, o10, hb10⟩
  have he : l' = insB (ltN Item.name) l ⟨s, canL p⟩ := names_one Item.name p1 p2 (dist_snoc Item.name (pw_dist Item.name (okItems_pw HE1.out)) (fun x hx => by
    have := findI_none' HF1.out x hx
    unfold isNm at this
    exact of_decide_eq_false this)) ((insB_perm _ _ _).trans (List.perm_append_comm (l₁ := [_]))) (insB_asc (swo_ltN _) (pw_asc Item.name (okItems_pw HE1.out)) _)
  have HO10 : Hid (OwnItems w10 w.heap.size (.slice a9 n9 c9) (addItL l s p)) := Lib.hid (by rw [HA.out, ← he]; exact OwnNest.mono o10 hb'.size)
  clear p1 p2 o10 he
  go_wp2
  go_ret2
  exact GivesItemsC.mk HC1.out HO10.out (bthen hb' (hb9.trans hb10))
end Go.Proofs.YtcgbdhbdlnimhaaGreat

/- MergeL: plain laws on libraries that are merged. -/
namespace Go.Proofs.YtcgbdhbdlnimhaaGreat
open Go.ChangeShapes Go.WideShapes Go.ChangeAt Go.RowKit

def newTo (a : List Item) (x : Item) : Bool := decide (findI (isNm x.name) a = -1)
def sameTo (a : List Item) (x : Item) : Bool := decide (findI (isNm x.name) a = findI (isPt x.pattern) a)
def addF (a b : List Item) : List Item := b.filter (newTo a)
def okMerge (a b : List Item) : Bool := b.all (sameTo a)
def mergeCode (a b : List Item) : Int := if okItems a = true then (if okItems b = true then (if okMerge a b = true then (if 60 < a.length + (addF a b).length then 5 else 0) else 4) else 1) else 1
def mergeL (a b : List Item) : List Item := if mergeCode a b = 0 then insAll (ltN Item.name) (addF a b) a else []
theorem mergeL_nil {a b : List Item} {c : Int} (h : mergeCode a b = c) (hc : c ≠ 0) : mergeL a b = [] := by unfold mergeL; rw [h, if_neg hc]
def DN (l : List Item) : Prop := l.Pairwise fun x y => x.name ≠ y.name
def DP (l : List Item) : Prop := l.Pairwise fun x y => x.pattern ≠ y.pattern
theorem isPt_iff (p : List Int) (x : Item) : isPt p x = true ↔ x.pattern = p := same2_iff eqI eqI_iff _ _
theorem isNm_iff (s : ByteArray) (x : Item) : isNm s x = true ↔ x.name = s := by unfold isNm; simp
theorem findI_neg_iff (f : Item → Bool) (l : List Item) : findI f l = -1 ↔ ∀ y ∈ l, f y = false := by
  constructor
  · intro h; exact findI_none' h
  · intro h
    rcases findI_cases f l with h1 | ⟨k, _, hk, hf, _⟩
    · exact h1
    · rw [h _ (mem_nth hk)] at hf; exact absurd hf (by decide)
theorem dn_idx {l : List Item} (h : DN l) {i j : Nat} (hi : i < l.length) (hj : j < l.length) (he : (nth l i).name = (nth l j).name) : i = j := by
  rw [nth_eq l i hi, nth_eq l j hj] at he
  rcases Nat.lt_trichotomy i j with h1 | h1 | h1
  · exact absurd he ((List.pairwise_iff_getElem.1 h) i j hi hj h1)
  · exact h1
  · exact absurd he.symm ((List.pairwise_iff_getElem.1 h) j i hj hi h1)
theorem dp_idx {l : List Item} (h : DP l) {i j : Nat} (hi : i < l.length) (hj : j < l.length) (he : (nth l i).pattern = (nth l j).pattern) : i = j := by
  rw [nth_eq l i hi, nth_eq l j hj] at he
  rcases Nat.lt_trichotomy i j with h1 | h1 | h1
  · exact absurd he ((List.pairwise_iff_getElem.1 h) i j hi hj h1)
  · exact h1
  · exact absurd he.symm ((List.pairwise_iff_getElem.1 h) j i hj hi h1)
theorem find_same {l : List Item} (hN : DN l) (hP : DP l) (x : Item) : findI (isNm x.name) l = findI (isPt x.pattern) l ↔ ((∀ y ∈ l, y.name ≠ x.name) ∧ (∀ y ∈ l, y.pattern ≠ x.pattern)) ∨ ∃ y ∈ l, y.name = x.name ∧ y.pattern = x.pattern := by
  have n1 : findI (isNm x.name) l = -1 → ∀ y ∈ l, y.name ≠ x.name := fun h y hy e => by
    have := findI_none' h y hy
    rw [(isNm_iff _ _).2 e] at this; exact absurd this (by decide)
  have n2 : findI (isPt x.pattern) l = -1 → ∀ y ∈ l, y.pattern ≠ x.pattern := fun h y hy e => by
    have := findI_none' h y hy
    rw [(isPt_iff _ _).2 e] at this; exact absurd this (by decide)
  rcases findI_cases (isNm x.name) l with h1 | ⟨k1, h1, hk1, f1, _⟩ <;> rcases findI_cases (isPt x.pattern) l with h2 | ⟨k2, h2, hk2, f2, _⟩
  · exact ⟨fun _ => .inl ⟨n1 h1, n2 h2⟩, fun _ => by rw [h1, h2]⟩
  · refine ⟨fun h => by omega, fun h => ?_⟩
    rcases h with ⟨_, h⟩ | ⟨y, hy, he, _⟩
    · exact absurd ((isPt_iff _ _).1 f2) (h _ (mem_nth hk2))
    · exact absurd he (n1 h1 y hy)
  · refine ⟨fun h => by omega, fun h => ?_⟩
    rcases h with ⟨h, _⟩ | ⟨y, hy, _, he⟩
    · exact absurd ((isNm_iff _ _).1 f1) (h _ (mem_nth hk1))
    · exact absurd he (n2 h2 y hy)
  · rw [h1, h2]
    have e1 := (isNm_iff _ _).1 f1
    have e2 := (isPt_iff _ _).1 f2
    constructor
    · intro h
      have h' : k1 = k2 := by omega
      subst h'
      exact .inr ⟨_, mem_nth hk1, e1, e2⟩
    · intro h
      rcases h with ⟨h, _⟩ | ⟨y, hy, hn, hp⟩
      · exact absurd e1 (h _ (mem_nth hk1))
      · obtain ⟨i, hi, rfl⟩ := List.getElem_of_mem hy
        rw [← nth_eq l i hi] at hn hp
        have a1 := dn_idx hN hi hk1 (hn.trans e1.symm)
        have a2 := dp_idx hP hi hk2 (hp.trans e2.symm)
        omega
theorem okItems_dn {l : List Item} (h : okItems l = true) : DN l := List.Pairwise.imp (fun {x y} hl e => by
  rw [e, (swo_ltN (id : ByteArray → ByteArray)).irrefl y.name |> fun h => (show lessB y.name y.name = false from h)] at hl
  exact absurd hl (by decide)) (okItems_pw h)
theorem okItems_dp {l : List Item} (h : okItems l = true) : DP l := by
  refine List.pairwise_iff_getElem.2 fun i j hi hj hij he => ?_
  have := okItems_at h hj
  unfold okItemAt at this
  simp only [Bool.and_eq_true] at this
  have hf := this.2.2.2.2
  unfold freshAt at hf
  rw [List.all_eq_true] at hf
  have h2 := hf i (List.mem_range.2 hij)
  rw [nth_eq l i hi, nth_eq l j hj, he, (same2_iff eqI eqI_iff _ _).2 rfl] at h2
  exact absurd h2 (by decide)
theorem dn_perm {l m : List Item} (h : l.Perm m) (hd : DN l) : DN m := (List.Perm.pairwise_iff (fun h e => h e.symm) h).1 hd
theorem dp_perm {l m : List Item} (h : l.Perm m) (hd : DP l) : DP m := (List.Perm.pairwise_iff (fun h e => h e.symm) h).1 hd
theorem dn_add {a b c : List Item} (ha : DN a) (hb : DN b) (hc : c.Sublist b) : DN (addF a c ++ a) := by
  refine List.pairwise_append.2 ⟨List.Pairwise.sublist (List.filter_sublist.trans hc) hb, ha, fun x hx y hy e => ?_⟩
  have hn := (List.mem_filter.1 hx).2
  unfold newTo at hn
  have := findI_none' (of_decide_eq_true hn) y hy
  rw [(isNm_iff _ _).2 e.symm] at this; exact absurd this (by decide)
theorem dp_add {a b c : List Item} (ha : DP a) (hb : DP b) (hc : c.Sublist b) (hm : ∀ x ∈ c, sameTo a x = true) : DP (addF a c ++ a) := by
  refine List.pairwise_append.2 ⟨List.Pairwise.sublist (List.filter_sublist.trans hc) hb, ha, fun x hx y hy e => ?_⟩
  obtain ⟨hxc, hn⟩ := List.mem_filter.1 hx
  unfold newTo at hn
  have h1 := of_decide_eq_true hn
  have h2 := of_decide_eq_true (hm x hxc)
  rw [h1] at h2
  have := findI_none' h2.symm y hy
  rw [(isPt_iff _ _).2 e.symm] at this; exact absurd this (by decide)
/-- What has been merged behind the first k of b. -/
def merged (a b : List Item) (k : Nat) : List Item := insAll (ltN Item.name) (addF a (b.take k)) a
theorem merged_perm (a b : List Item) (k : Nat) : (merged a b k).Perm (addF a (b.take k) ++ a) := insAll_perm _ _ _
theorem insAll_snoc {α : Type} [Inhabited α] (lt : α → α → Bool) : ∀ (l acc : List α) (x : α), insAll lt (l ++ [x]) acc = insB lt (insAll lt l acc) x
  | [], _, _ => rfl
  | y :: l, acc, x => insAll_snoc lt l (insB lt acc y) x
theorem addF_step {a b : List Item} {k : Nat} (hk : k < b.length) : addF a (b.take (k + 1)) = addF a (b.take k) ++ (if newTo a (nth b k) = true then [nth b k] else []) := by
  unfold addF
  rw [take_nth b k hk, List.filter_append]
  congr 1
  by_cases h : newTo a (nth b k) = true
  · rw [if_pos h]; simp [h]
  · rw [if_neg h]; simp [h]
theorem merged_new {a b : List Item} {k : Nat} (hk : k < b.length) (h : newTo a (nth b k) = true) : merged a b (k + 1) = insB (ltN Item.name) (merged a b k) (nth b k) := by
  unfold merged; rw [addF_step hk, if_pos h, insAll_snoc]
theorem merged_old {a b : List Item} {k : Nat} (hk : k < b.length) (h : newTo a (nth b k) = false) : merged a b (k + 1) = merged a b k := by
  unfold merged; rw [addF_step hk, if_neg (by rw [h]; decide), List.append_nil]
theorem merge_step {a b : List Item} {k : Nat} (ha : okItems a = true) (hb : okItems b = true) (hk : k < b.length) (hm : ∀ j, j < k → sameTo a (nth b j) = true) :
    (findI (isNm (nth b k).name) (merged a b k) = findI (isPt (nth b k).pattern) (merged a b k) ↔ sameTo a (nth b k) = true) ∧ (findI (isNm (nth b k).name) (merged a b k) = -1 ↔ newTo a (nth b k) = true) := by
  have hsub : (b.take k).Sublist b := List.take_sublist _ _
  have hmt : ∀ x ∈ b.take k, sameTo a x = true := by
    intro x hx
    obtain ⟨j, hj, rfl⟩ := List.getElem_of_mem hx
    rw [List.length_take] at hj
    rw [List.getElem_take, ← nth_eq b j (by omega)]
    exact hm j (by omega)
  have hp := merged_perm a b k
  have hN := dn_perm hp.symm (dn_add (okItems_dn ha) (okItems_dn hb) hsub)
  have hP := dp_perm hp.symm (dp_add (okItems_dp ha) (okItems_dp hb) hsub hmt)
  have hmem : ∀ y, y ∈ merged a b k ↔ y ∈ addF a (b.take k) ∨ y ∈ a := fun y => by rw [hp.mem_iff, List.mem_append]
  have hfar : ∀ y ∈ addF a (b.take k), y.name ≠ (nth b k).name ∧ y.pattern ≠ (nth b k).pattern := by
    intro y hy
    have hyt := (List.mem_filter.1 hy).1
    obtain ⟨j, hj, rfl⟩ := List.getElem_of_mem hyt
    rw [List.length_take] at hj
    rw [List.getElem_take, ← nth_eq b j (by omega)]
    refine ⟨fun e => ?_, fun e => ?_⟩
    · have := dn_idx (okItems_dn hb) (by omega) hk e; omega
    · have := dp_idx (okItems_dp hb) (by omega) hk e; omega
  constructor
  · rw [find_same hN hP]
    unfold sameTo
    rw [decide_eq_true_iff, find_same (okItems_dn ha) (okItems_dp ha)]
    constructor
    · intro h
      rcases h with ⟨h1, h2⟩ | ⟨y, hy, h1, h2⟩
      · exact .inl ⟨fun y hy => h1 y ((hmem y).2 (.inr hy)), fun y hy => h2 y ((hmem y).2 (.inr hy))⟩
      · rcases (hmem y).1 hy with hy | hy
        · exact absurd h1 (hfar y hy).1
        · exact .inr ⟨y, hy, h1, h2⟩
    · intro h
      rcases h with ⟨h1, h2⟩ | ⟨y, hy, h1, h2⟩
      · refine .inl ⟨fun y hy => ?_, fun y hy => ?_⟩
        · rcases (hmem y).1 hy with hy | hy
          · exact (hfar y hy).1
          · exact h1 y hy
        · rcases (hmem y).1 hy with hy | hy
          · exact (hfar y hy).2
          · exact h2 y hy
      · exact .inr ⟨y, (hmem y).2 (.inr hy), h1, h2⟩
  · unfold newTo
    rw [decide_eq_true_iff, findI_neg_iff, findI_neg_iff]
    constructor
    · intro h y hy; exact h y ((hmem y).2 (.inr hy))
    · intro h y hy
      rcases (hmem y).1 hy with hy | hy
      · cases hc : isNm (nth b k).name y
        · rfl
        · exact absurd ((isNm_iff _ _).1 hc) (hfar y hy).1
      · exact h y hy
theorem merged_len (a b : List Item) (k : Nat) : (merged a b k).length = a.length + (addF a (b.take k)).length := by
  have := (merged_perm a b k).length_eq
  rw [List.length_append] at this; omega
theorem addF_le (a b : List Item) : (addF a b).length ≤ b.length := List.length_filter_le _ _
theorem merged_ok {a b : List Item} (ha : okItems a = true) (hb : okItems b = true) (k : Nat) : (merged a b k).length ≤ 120 ∧ ∀ x ∈ merged a b k, x.pattern.length ≤ 1048576 := by
  constructor
  · rw [merged_len]
    have h1 := okItems_len ha
    have h2 := okItems_len hb
    have h3 := addF_le a (b.take k)
    rw [List.length_take] at h3; omega
  · intro x hx
    have := (merged_perm a b k).mem_iff.1 hx
    rcases List.mem_append.1 this with h | h
    · have := (okPat_len (okItems_pat hb x (List.mem_of_mem_take (List.mem_filter.1 h).1))).2; omega
    · have := (okPat_len (okItems_pat ha x h)).2; omega
theorem mergeL_ok (a b : List Item) : (mergeL a b).length ≤ 1048576 ∧ ∀ x ∈ mergeL a b, x.pattern.length ≤ 1048576 := by
  unfold mergeL
  split
  · rename_i h
    unfold mergeCode at h
    split at h
    · rename_i h1
      split at h
      · rename_i h2
        have := merged_ok h1 h2 b.length
        unfold merged at this
        rw [List.take_length] at this
        exact ⟨by omega, this.2⟩
      · exact absurd h (by decide)
    · exact absurd h (by decide)
  · exact ⟨by simp, fun x hx => absurd hx List.not_mem_nil⟩
theorem okMerge_all {a b : List Item} (h : ∀ j, j < b.length → sameTo a (nth b j) = true) : okMerge a b = true := by
  unfold okMerge
  rw [List.all_eq_true]
  intro x hx
  obtain ⟨j, hj, rfl⟩ := List.getElem_of_mem hx
  rw [← nth_eq b j hj]; exact h j hj
theorem okMerge_not {a b : List Item} {k : Nat} (hk : k < b.length) (h : sameTo a (nth b k) = false) : okMerge a b = false := by
  unfold okMerge
  rw [List.all_eq_false]
  exact ⟨_, mem_nth hk, by rw [h]; decide⟩
theorem merge_one {a b l' : List Item} (ha : okItems a = true) (hb : okItems b = true) (hp : l'.Perm (a ++ addF a b)) (hA : Asc (ltN Item.name) l') : l' = insAll (ltN Item.name) (addF a b) a := by
  have hd := dn_add (okItems_dn ha) (okItems_dn hb) (List.Sublist.refl b)
  refine names_one Item.name (hp.trans List.perm_append_comm) hA (fun x hx y hy e => ?_) (insAll_perm _ _ _) (insAll_asc (swo_ltN _) _ _ (pw_asc Item.name (okItems_pw ha)))
  obtain ⟨i, hi, rfl⟩ := List.getElem_of_mem hx
  obtain ⟨j, hj, rfl⟩ := List.getElem_of_mem hy
  rw [← nth_eq _ i hi, ← nth_eq _ j hj] at *
  rw [dn_idx hd hi hj e]
end Go.Proofs.YtcgbdhbdlnimhaaGreat
