/- ItemAdd2: AddItem, by both packages. -/
import Derived.Test.YthnkhpebaeloeaaItemAdd
namespace Go.Proofs.Ythnkhpebaeloeaa
open Go.ChangeShapes Go.WideShapes Go.ChangeAt Go.RowKit

def addItCode (l : List Item) (s : ByteArray) (p : List Int) : Int := if okItems l = true then (if okPat p = true then (if nameB (chars s) = true then (if findI (isNm s) l = -1 then (if findI (isPt (canL p)) l = -1 then (if l.length = 60 then 5 else 0) else 4) else 4) else 7) else 1) else 1
def addItL (l : List Item) (s : ByteArray) (p : List Int) : List Item := if addItCode l s p = 0 then insB (ltN Item.name) l ⟨s, canL p⟩ else []
theorem addItL_nil {l : List Item} {s : ByteArray} {p : List Int} {c : Int} (h : addItCode l s p = c) (hc : c ≠ 0) : addItL l s p = [] := by unfold addItL; rw [h, if_neg hc]
theorem findI_none' {f : Item → Bool} {l : List Item} (h : findI f l = -1) : ∀ x ∈ l, f x = false := by
  intro x hx
  cases hfx : f x
  · rfl
  · obtain ⟨i, hi, rfl⟩ := List.getElem_of_mem hx
    unfold findI at h
    split at h
    · omega
    · rename_i h2
      rw [List.findIdx?_eq_none_iff] at h2
      have := h2 _ hx
      rw [hfx] at this; exact absurd this (by decide)
theorem canL_len' {p : List Int} (h : okPat p = true) : (canL p).length ≤ 1048576 := by
  rw [canL_len]
  have h1 := (okPat_len h).2
  have h2 := rootK_le p
  omega
theorem addItL_ok (l : List Item) (s : ByteArray) (p : List Int) : (addItL l s p).length ≤ 1048576 ∧ ∀ x ∈ addItL l s p, x.pattern.length ≤ 1048576 := by
  unfold addItL
  split
  · rename_i h
    unfold addItCode at h
    split at h
    · rename_i h1
      split at h
      · rename_i h2
        have h60 := okItems_len h1
        have hp := okItems_pat h1
        refine ⟨by rw [insB_len]; omega, fun x hx => ?_⟩
        have hx' := (insB_perm (ltN Item.name) l ⟨s, canL p⟩).mem_iff.1 hx
        rcases List.mem_cons.1 hx' with rfl | hx'
        · have := canL_len' h2; exact this
        · have := (okPat_len (hp x hx')).2; omega
      · exact absurd h (by decide)
    · exact absurd h (by decide)
  · exact ⟨by simp, fun x hx => absurd hx List.not_mem_nil⟩

set_option maxRecDepth 100000 in
set_option maxHeartbeats 4000000 in
theorem sAddItem_c (v u : Value) (l : List Item) (s : ByteArray) (p : List Int) (w : World) (hv : ItemsAt w v l) (hu : IntsAt w u p) (hs : s.size ≤ 9223372036854775807) : Calls Try.prog 36 #[v, .string s, u] w (GivesItemsC (addItL l s p) (addItCode l s p) w) := by
  have HV := Lib.hid hv
  have HU := Lib.hid hu
  have K1 := Lib.hid (l22Ok_c v l w hv)
  have K2 := Lib.hid (fun W x => l02Ok_c u p W x)
  have K3 := Lib.hid (fun W => sIsName_c s W hs)
  have K5 := Lib.hid (fun W x => l22Find_c v l s W x)
  have K6 := Lib.hid (fun W z x y => l22Like_c v z l (canL p) W x y)
  have HC : Hid (addItCode l s p = if okItems l = true then (if okPat p = true then (if nameB (chars s) = true then (if findI (isNm s) l = -1 then (if findI (isPt (canL p)) l = -1 then (if l.length = 60 then 5 else 0) else 4) else 4) else 7) else 1) else 1) := Lib.hid rfl
  obtain ⟨a, n, cap, rfl, hn, hl, hm, hc⟩ := hv
  have Hc := Lib.hid hc; clear hc
  have Hn := Lib.hid hn; clear hn
  obtain ⟨ua, un, uc, rfl, -⟩ := hu
  obtain ⟨b1, hE1⟩ : ∃ b, okItems l = b := ⟨_, rfl⟩
  obtain ⟨b2, hE2⟩ : ∃ b, okPat p = b := ⟨_, rfl⟩
  rw [hE1] at K1 HC
  rw [hE2] at K2 HC
  have HE1 := Lib.hid hE1
  have HE2 := Lib.hid hE2
  clear hE1 hE2
  generalize nameB (chars s) = b3 at *
  go_enter Try.func36, Try.ntmps36
  go_wp2_with fail
  refine K1.out.mono ?_
  rintro e w1 ⟨rfl, hb1⟩
  clear K1
  cases b1
  · have HC1 : Hid (addItCode l s p = 1) := Lib.hid HC.out
    clear HC K2 K3 K5 K6
    go_wp2
    go_ret2
    exact GivesItemsC.none (addItL_nil HC1.out (by decide)) HC1.out hb1
  have hn60 : n ≤ 60 := by rw [Hn.out]; exact okItems_len HE1.out
  go_wp2_with fail
  refine (K2.out _ (HU.out.below hb1)).mono ?_
  rintro e w2 ⟨rfl, hb2⟩
  clear K2
  have hb' := bthen hb1 hb2
  clear hb1 hb2
  cases b2
  · have HC1 : Hid (addItCode l s p = 1) := Lib.hid HC.out
    clear HC K3 K5 K6
    go_wp2
    go_ret2
    exact GivesItemsC.none (addItL_nil HC1.out (by decide)) HC1.out hb'
  go_wp2_with fail
  refine (K3.out _).mono ?_
  rintro e w3 ⟨rfl, hb3⟩
  clear K3
  have hb := bthen hb' hb3
  clear hb' hb3
  cases b3
  · have HC1 : Hid (addItCode l s p = 7) := Lib.hid HC.out
    clear HC K5 K6
    go_wp2
    go_ret2
    exact GivesItemsC.none (addItL_nil HC1.out (by decide)) HC1.out hb
  go_wp2_with fail
  refine (canonicalPattern_c _ p _ (HU.out.below hb) HE2.out).mono ?_
  rintro e w4 ⟨a3, n3, c3, rfl, o3, hb4⟩
  have HC3 := Lib.hid (OwnInts.at o3)
  clear o3
  have hb' := bthen hb hb4
  clear hb hb4
  go_wp2_with fail
  refine (K5.out _ (HV.out.below hb')).mono ?_
  rintro e w5 ⟨rfl, hb5⟩
  clear K5
  rcases findI_cases (isNm s) l with hf | ⟨kf, hf, hkf, -, -⟩
  rotate_left
  · have HC1 : Hid (addItCode l s p = 4) := Lib.hid (by rw [HC.out, if_pos trivial, if_pos trivial, if_pos trivial, if_neg (by rw [hf]; omega)])
    rw [hf]
    have hge : decide ((kf : Int) ≥ 0) = true := decide_eq_true (by omega)
    clear HC hf hkf K6
    go_wp2
    go_ret2
    exact GivesItemsC.none (addItL_nil HC1.out (by decide)) HC1.out (bthen hb' hb5)
  have HF1 := Lib.hid hf
  rw [hf]
  clear hf
  have HC4 := Lib.hid (HC3.out.below hb5)
  clear HC3
  have hb := bthen hb' hb5
  clear hb' hb5
  go_wp2_with fail
  refine (K6.out _ _ (HV.out.below hb) HC4.out).mono ?_
  rintro e w6 ⟨rfl, hb6⟩
  clear K6
  have HC5 := Lib.hid (HC4.out.below hb6)
  clear HC4
  have hb' := bthen hb hb6
  clear hb hb6
  rcases findI_cases (isPt (canL p)) l with hf | ⟨kf, hf, hkf, -, -⟩
  rotate_left
  · have HC1 : Hid (addItCode l s p = 4) := Lib.hid (by rw [HC.out, if_pos trivial, if_pos trivial, if_pos trivial, if_pos HF1.out, if_neg (by rw [hf]; omega)])
    rw [hf]
    have hge : decide ((kf : Int) ≥ 0) = true := decide_eq_true (by omega)
    clear HC hf hkf
    go_wp2
    go_ret2
    exact GivesItemsC.none (addItL_nil HC1.out (by decide)) HC1.out hb'
  have HC2 : Hid (addItCode l s p = if l.length = 60 then 5 else 0) := Lib.hid (by rw [HC.out, if_pos trivial, if_pos trivial, if_pos trivial, if_pos HF1.out, if_pos hf])
  rw [hf]
  clear HC hf
  by_cases h60 : n = 60
  · subst h60
    have HC1 : Hid (addItCode l s p = 5) := Lib.hid (by rw [HC2.out, if_pos Hn.out.symm])
    clear HC2
    go_wp2
    go_ret2
    exact GivesItemsC.none (addItL_nil HC1.out (by decide)) HC1.out hb'
  have HC1 : Hid (addItCode l s p = 0) := Lib.hid (by rw [HC2.out, if_neg (by rw [← Hn.out]; exact h60)])
  have HA : Hid (addItL l s p = insB (ltN Item.name) l ⟨s, canL p⟩) := Lib.hid (by unfold addItL; rw [if_pos HC1.out])
  have HKL : Hid ((insB (ltN Item.name) l ⟨s, canL p⟩).length ≤ 1048576 ∧ ∀ x ∈ insB (ltN Item.name) l ⟨s, canL p⟩, x.pattern.length ≤ 1048576) := Lib.hid (by rw [← HA.out]; exact addItL_ok l s p)
  have h60' : n < 60 := by omega
  clear HC2 h60
  have hlt60 : decide ((n : Int) ≥ 60) = false := decide_eq_false (by omega)
  go_wp2_with fail
  refine (l22Put_c _ a3 n3 c3 l ⟨s, canL p⟩ w6 (HV.out.below hb') HC5.out hs (by rw [← Hn.out]; omega)).mono ?_
  rintro e w7 ⟨a7, n7, c7, rfl, hi7, hb7⟩
  have HI := Lib.hid hi7
  clear hi7
  go_wp2_with fail
  refine (l22Own_c _ _ _ HI.out HKL.out.1 HKL.out.2).mono ?_
  rintro e w8 ⟨a8, n8, c8, rfl, o8, hb8⟩
  have hb := bthen hb' hb7
  have HO8 : Hid (OwnItems w8 w.heap.size (.slice a8 n8 c8) (addItL l s p)) := Lib.hid (by rw [HA.out]; exact OwnNest.mono o8 hb.size)
  clear o8
  go_wp2
  go_ret2
  exact GivesItemsC.mk HC1.out HO8.out (bthen hb hb8)
set_option maxRecDepth 100000 in
set_option maxHeartbeats 4000000 in
theorem iAddItem_c (v u : Value) (l : List Item) (s : ByteArray) (p : List Int) (w : World) (hv : ItemsAt w v l) (hu : IntsAt w u p) (hs : s.size ≤ 9223372036854775807) : Calls Try.prog 37 #[v, .string s, u] w (GivesItemsC (addItL l s p) (addItCode l s p) w) := by
  have HV := Lib.hid hv
  have HU := Lib.hid hu
  have K1 := Lib.hid (iValidItems_c v l w hv)
  have K2 := Lib.hid (fun W x => validPattern_c u p W x)
  have K3 := Lib.hid (fun W => iIsName_c s W hs)
  have K5 := Lib.hid (fun W x => itemNamed_c v l s W x)
  have K6 := Lib.hid (fun W z x y => itemWith_c v z l (canL p) W x y)
  have HC : Hid (addItCode l s p = if okItems l = true then (if okPat p = true then (if nameB (chars s) = true then (if findI (isNm s) l = -1 then (if findI (isPt (canL p)) l = -1 then (if l.length = 60 then 5 else 0) else 4) else 4) else 7) else 1) else 1) := Lib.hid rfl
  obtain ⟨a, n, cap, rfl, hn, hl, hm, hc⟩ := hv
  have Hc := Lib.hid hc; clear hc
  have Hn := Lib.hid hn; clear hn
  obtain ⟨ua, un, uc, rfl, -⟩ := hu
  obtain ⟨b1, hE1⟩ : ∃ b, okItems l = b := ⟨_, rfl⟩
  obtain ⟨b2, hE2⟩ : ∃ b, okPat p = b := ⟨_, rfl⟩
  rw [hE1] at K1 HC
  rw [hE2] at K2 HC
  have HE1 := Lib.hid hE1
  have HE2 := Lib.hid hE2
  clear hE1 hE2
  generalize nameB (chars s) = b3 at *
  go_enter Try.func37, Try.ntmps37
  go_wp2_with fail
  refine K1.out.mono ?_
  rintro e w1 ⟨rfl, hb1⟩
  clear K1
  cases b1
  · have HC1 : Hid (addItCode l s p = 1) := Lib.hid HC.out
    clear HC K2 K3 K5 K6
    go_wp2
    go_ret2
    exact GivesItemsC.none (addItL_nil HC1.out (by decide)) HC1.out hb1
  have hn60 : n ≤ 60 := by rw [Hn.out]; exact okItems_len HE1.out
  go_wp2_with fail
  refine (K2.out _ (HU.out.below hb1)).mono ?_
  rintro e w2 ⟨rfl, hb2⟩
  clear K2
  have hb' := bthen hb1 hb2
  clear hb1 hb2
  cases b2
  · have HC1 : Hid (addItCode l s p = 1) := Lib.hid HC.out
    clear HC K3 K5 K6
    go_wp2
    go_ret2
    exact GivesItemsC.none (addItL_nil HC1.out (by decide)) HC1.out hb'
  go_wp2_with fail
  refine (K3.out _).mono ?_
  rintro e w3 ⟨rfl, hb3⟩
  clear K3
  have hb := bthen hb' hb3
  clear hb' hb3
  cases b3
  · have HC1 : Hid (addItCode l s p = 7) := Lib.hid HC.out
    clear HC K5 K6
    go_wp2
    go_ret2
    exact GivesItemsC.none (addItL_nil HC1.out (by decide)) HC1.out hb
  go_wp2_with fail
  refine (canonical_c _ p _ (HU.out.below hb) (okPat_len HE2.out).1 (okPat_len HE2.out).2).mono ?_
  rintro e w4 ⟨a3, n3, c3, rfl, o3, hb4⟩
  have HC3 := Lib.hid (OwnInts.at o3)
  clear o3
  have hb' := bthen hb hb4
  clear hb hb4
  go_wp2_with fail
  refine (K5.out _ (HV.out.below hb')).mono ?_
  rintro e w5 ⟨rfl, hb5⟩
  clear K5
  rcases findI_cases (isNm s) l with hf | ⟨kf, hf, hkf, -, -⟩
  rotate_left
  · have HC1 : Hid (addItCode l s p = 4) := Lib.hid (by rw [HC.out, if_pos trivial, if_pos trivial, if_pos trivial, if_neg (by rw [hf]; omega)])
    rw [hf]
    have hge : decide ((kf : Int) ≥ 0) = true := decide_eq_true (by omega)
    clear HC hf hkf K6
    go_wp2
    go_ret2
    exact GivesItemsC.none (addItL_nil HC1.out (by decide)) HC1.out (bthen hb' hb5)
  have HF1 := Lib.hid hf
  rw [hf]
  clear hf
  have HC4 := Lib.hid (HC3.out.below hb5)
  clear HC3
  have hb := bthen hb' hb5
  clear hb' hb5
  go_wp2_with fail
  refine (K6.out _ _ (HV.out.below hb) HC4.out).mono ?_
  rintro e w6 ⟨rfl, hb6⟩
  clear K6
  have HC5 := Lib.hid (HC4.out.below hb6)
  clear HC4
  have hb' := bthen hb hb6
  clear hb hb6
  rcases findI_cases (isPt (canL p)) l with hf | ⟨kf, hf, hkf, -, -⟩
  rotate_left
  · have HC1 : Hid (addItCode l s p = 4) := Lib.hid (by rw [HC.out, if_pos trivial, if_pos trivial, if_pos trivial, if_pos HF1.out, if_neg (by rw [hf]; omega)])
    rw [hf]
    have hge : decide ((kf : Int) ≥ 0) = true := decide_eq_true (by omega)
    clear HC hf hkf
    go_wp2
    go_ret2
    exact GivesItemsC.none (addItL_nil HC1.out (by decide)) HC1.out hb'
  have HC2 : Hid (addItCode l s p = if l.length = 60 then 5 else 0) := Lib.hid (by rw [HC.out, if_pos trivial, if_pos trivial, if_pos trivial, if_pos HF1.out, if_pos hf])
  rw [hf]
  clear HC hf
  by_cases h60 : n = 60
  · subst h60
    have HC1 : Hid (addItCode l s p = 5) := Lib.hid (by rw [HC2.out, if_pos Hn.out.symm])
    clear HC2
    go_wp2
    go_ret2
    exact GivesItemsC.none (addItL_nil HC1.out (by decide)) HC1.out hb'
  have HC1 : Hid (addItCode l s p = 0) := Lib.hid (by rw [HC2.out, if_neg (by rw [← Hn.out]; exact h60)])
  have HA : Hid (addItL l s p = insB (ltN Item.name) l ⟨s, canL p⟩) := Lib.hid (by unfold addItL; rw [if_pos HC1.out])
  have HKL : Hid ((insB (ltN Item.name) l ⟨s, canL p⟩).length ≤ 1048576 ∧ ∀ x ∈ insB (ltN Item.name) l ⟨s, canL p⟩, x.pattern.length ≤ 1048576) := Lib.hid (by rw [← HA.out]; exact addItL_ok l s p)
  have h60' : n < 60 := by omega
  clear HC2 h60
  have hlt60 : ((n : Int) == 60) = false := beq_eq_false_iff_ne.2 (by omega)
  go_wp2_with fail
  refine (copyItems_c _ l w6 (HV.out.below hb') (by rw [← Hn.out]; omega) (fun x hx => by have := (okPat_len (okItems_pat HE1.out x hx)).2; omega)).mono ?_
  rintro e w7 ⟨a7, n7, c7, rfl, o7, hb7⟩
  obtain ⟨ps, hps, hN⟩ := InNest.of o7
  have HN := Lib.hid hN
  have Hps := Lib.hid hps
  have hlen : ps.length = n := by rw [Hn.out, ← Hps.out]; simp
  have HC6 := Lib.hid (HC5.out.below hb7)
  clear o7 hps hN
  go_wp2_with fail
  refine (copyNumbers_c _ (canL p) w7 HC6.out (canL_len' HE2.out)).mono ?_
  rintro e w8 ⟨a8, n8, c8, rfl, o8, hb8⟩
  have HI : Hid (InInts w8 w7.heap.size w8.heap.size (.slice a8 n8 c8) (canL p)) := Lib.hid (InInts.of o8)
  have HN8 := Lib.hid (HN.out.below hb8)
  have hs7 := hb7.size
  have hs8 := hb8.size
  clear o8
  go_wp2_with (at_builtin; refine wpList_app_items rfl _ _ rfl w6.heap.size _ ps.length _ rfl (HN8.out.below (go_below_alloc _ _)).row.1 _ 1 1 [.string s, .slice a8 n8 c8] rfl (item_new _ _ _ _) (by intro y hy; simp at hy; rcases hy with rfl | rfl <;> rfl) (by omega) (by simp; omega) ?_)
  intro a9 n9 c9 w9 hn9 ho9 hg9 hl9
  have hb9 : Below w6.heap.size w6 w9 := ((bthen hb7 hb8).alloc (by omega) _).grown hg9 (by simp; omega) (fun g hg => (HN8.out.row.1.lt g hg).1)
  have HO9 : Hid (OwnItems w9 w6.heap.size (.slice a9 n9 c9) (l ++ [⟨s, canL p⟩])) := Lib.hid (by
    have h := nest_snoc (x := (⟨s, canL p⟩ : Item)) (HN8.out.below (go_below_alloc _ _)) (HI.out.below (go_below_alloc _ _)) hs7 ⟨_, _, _, rfl⟩ hs (by simp; omega) (by rw [hlen]; exact ho9) hg9 (by simpa using hl9)
    rw [Hps.out] at h
    exact h)
  clear ho9 hg9 hl9 hn9
  have hs9 := hb9.size
  go_wp2_with fail
  refine (sortItems_c a9 n9 c9 _ w9 w6.heap.size HO9.out (by have := Hn.out; simp; omega) hs9).mono ?_
  rintro e w10 ⟨rfl, l', p1, p2, o10, hb10⟩
  have he : l' = insB (ltN Item.name) l ⟨s, canL p⟩ := names_one Item.name p1 p2 (dist_snoc Item.name (pw_dist Item.name (okItems_pw HE1.out)) (fun x hx => by
    have := findI_none' HF1.out x hx
    unfold isNm at this
    exact of_decide_eq_false this)) ((insB_perm _ _ _).trans (List.perm_append_comm (l₁ := [_]))) (insB_asc (swo_ltN _) (pw_asc Item.name (okItems_pw HE1.out)) _)
  have HO10 : Hid (OwnItems w10 w.heap.size (.slice a9 n9 c9) (addItL l s p)) := Lib.hid (by rw [HA.out, ← he]; exact OwnNest.mono o10 hb'.size)
  clear p1 p2 o10 he
  go_wp2
  go_ret2
  exact GivesItemsC.mk HC1.out HO10.out (bthen hb' (hb9.trans hb10))
end Go.Proofs.Ythnkhpebaeloeaa
