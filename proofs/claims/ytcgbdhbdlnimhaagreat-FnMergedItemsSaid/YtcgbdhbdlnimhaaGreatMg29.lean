import Derived.Test.YtcgbdhbdlnimhaaGreatMg26
import Derived.Test.YtcgbdhbdlnimhaaGreatMg25
import Derived.Test.YtcgbdhbdlnimhaaGreatMg28
import Derived.Test.YtcgbdhbdlnimhaaGreatMg5
import Derived.Test.YtcgbdhbdlnimhaaGreatMg10
import Derived.Test.YtcgbdhbdlnimhaaGreatMg17
/- ItemRem: RemoveItem, by both packages. -/
namespace Go.Proofs.YtcgbdhbdlnimhaaGreat
open Go.ChangeShapes Go.WideShapes Go.ChangeAt Go.RowKit

def GivesItemsC (l : List Item) (code : Int) (w : World) (e : Ending) (w' : World) : Prop := ∃ a n c, e = .returned (.tuple #[.slice a n c, .int .i64 code]) ∧ OwnItems w' w.heap.size (.slice a n c) l ∧ Below w.heap.size w w'
theorem own_items_nil (w : World) (base : Nat) : OwnItems w base (.slice none 0 0) [] := ⟨[], rfl, World.ownsRow_nil _ _ _ _, fun _ h => absurd h List.not_mem_nil, List.Pairwise.nil⟩
theorem GivesItemsC.none {l : List Item} {c1 c2 : Int} {w w' : World} (h : l = []) (hc : c1 = c2) (hb : Below w.heap.size w w') : GivesItemsC l c1 w (.returned (.tuple #[.slice Option.none 0 0, .int .i64 c2])) w' :=
  ⟨Option.none, 0, 0, by rw [hc], by rw [h]; exact own_items_nil _ _, hb⟩
theorem GivesItemsC.mk {l : List Item} {c1 c2 : Int} {a : Option Addr} {n c : Nat} {w w' : World} (hc : c1 = c2) (ho : OwnItems w' w.heap.size (.slice a n c) l) (hb : Below w.heap.size w w') : GivesItemsC l c1 w (.returned (.tuple #[.slice a n c, .int .i64 c2])) w' :=
  ⟨a, n, c, by rw [hc], ho, hb⟩
theorem OwnNest.mono {α : Type} [Inhabited α] {S : Shape α} {T : TypeId} {w : World} {base base' : Nat} {v : Value} {l : List α} (h : OwnNest S T w base' v l) (hb : base ≤ base') : OwnNest S T w base v l := by
  obtain ⟨ps, h1, h2, h3, h4⟩ := h
  exact ⟨ps, h1, own_mono h2 hb, fun p hp => ⟨(h3 p hp).1, own_mono (h3 p hp).2.1 hb, (h3 p hp).2.2.1, (h3 p hp).2.2.2⟩, h4⟩
theorem nest_at_row {α : Type} [Inhabited α] {S : Shape α} {T : TypeId} {w : World} {base : Nat} {v : Value} {ps : List (Value × α)} (ho : w.ownsRow base T S.k v ps.length (ps.flatMap fun p => S.enc p.1 p.2))
    (hp : ∀ p ∈ ps, (∃ pa pn pc, p.1 = .slice pa pn pc) ∧ IntsAt w p.1 (S.pat p.2) ∧ S.ok p.2) : NestAt S w v (ps.map (·.2)) := by
  have hlt := ho.lt
  have hlen : (ps.map (·.2)).length = ps.length := by simp
  rcases ho.2 with ⟨rfl, h0⟩ | ⟨g, cap, cur, rfl, hb, hg, hnc, hcm, hcs, htake⟩
  · exact ⟨none, 0, 0, rfl, by rw [hlen]; exact h0.symm, Nat.le_refl _, by decide, fun i hi => by omega⟩
  · refine ⟨_, _, _, rfl, hlen.symm, hnc, hcm, fun i hi => ?_⟩
    rw [hlen] at hi
    have hm : nth ps i ∈ ps := mem_nth hi
    obtain ⟨⟨pa, pn, pc, he⟩, hoi, hok⟩ := hp _ hm
    refine ⟨g, 0, pa, pn, pc, rfl, (hlt g rfl).2, ?_, ?_, fun j hj => ?_⟩
    · rw [nth_map _ _ _ hi]; exact hok
    · rw [nth_map _ _ _ hi, ← he]; exact hoi
    · have h1 : i * S.k + j < ps.length * S.k := by
        have : (i + 1) * S.k ≤ ps.length * S.k := Nat.mul_le_mul_right _ hi
        rw [Nat.succ_mul] at this; omega
      have h2 := ho.cellAt (i * S.k + j) h1
      rw [Nat.zero_add, h2, nth_map _ _ _ hi, ← he]
      exact flat_at (fun p : Value × α => S.enc p.1 p.2) S.k (fun p => S.len p.1 p.2) ps i hi j hj
def remL (l : List Item) (s : ByteArray) : List Item := if okItems l then (if findI (isNm s) l < 0 then [] else l.take (findI (isNm s) l).toNat ++ l.drop ((findI (isNm s) l).toNat + 1)) else []
def remCode (l : List Item) (s : ByteArray) : Int := if okItems l then (if findI (isNm s) l < 0 then 3 else 0) else 1
theorem remL_ok (l : List Item) (s : ByteArray) : (remL l s).length ≤ 1048576 ∧ ∀ x ∈ remL l s, x.pattern.length ≤ 1048576 := by
  unfold remL
  split
  · rename_i h
    have h60 := okItems_len h
    have hp := okItems_pat h
    have hq : ∀ x ∈ l, x.pattern.length ≤ 1048576 := fun x hx => by have := (okPat_len (hp x hx)).2; omega
    split
    · exact ⟨by simp, fun x hx => absurd hx List.not_mem_nil⟩
    · refine ⟨by simp; omega, fun x hx => ?_⟩
      rcases List.mem_append.1 hx with h1 | h1
      · exact hq x (List.mem_of_mem_take h1)
      · exact hq x (List.mem_of_mem_drop h1)
  · exact ⟨by simp, fun x hx => absurd hx List.not_mem_nil⟩
theorem items_front {W : World} {a : Option Addr} {l : List Item} {n k cap : Nat} (h : NestC itemS W a l) (hn : n = l.length) (hk : k ≤ n) (hc : n ≤ cap) (hm : cap ≤ 9223372036854775807) : ItemsAt W (.slice a k cap) (l.take k) :=
  ⟨a, k, cap, rfl, by rw [List.length_take]; omega, by omega, hm, nest_take h k⟩
theorem items_back {W : World} {a : Option Addr} {l : List Item} {n k cap : Nat} (h : NestC itemS W a l) (hn : n = l.length) (hc : n ≤ cap) (hm : cap ≤ 9223372036854775807) : ItemsAt W (.slice (a.map fun x => x.add (k * 2)) (n - k) (cap - k)) (l.drop k) :=
  ⟨_, _, _, rfl, by rw [List.length_drop]; omega, by omega, by omega, nest_drop h k⟩
theorem items_none (W : World) (a : Option Addr) (c : Nat) (hc : c ≤ 9223372036854775807) : ItemsAt W (.slice a 0 c) [] := ⟨a, 0, c, rfl, rfl, Nat.zero_le _, hc, fun _ hi => absurd hi (Nat.not_lt_zero _)⟩
theorem reads_none' (w : World) (a : Option Addr) : Reads w w.heap.size 2 a 0 ([] : List Value) := ⟨rfl, fun h => absurd h (Nat.lt_irrefl _)⟩

theorem NestIn.len {α : Type} [Inhabited α] {S : Shape α} {T : TypeId} {w : World} {lo hi n c : Nat} {a : Option Addr} {ps : List (Value × α)} (h : NestIn S T w lo hi (.slice a n c) ps) : n = ps.length := by
  obtain ⟨a', c', e⟩ := slice_of_own h.row.1
  injection e
theorem NestIn.reads' {α : Type} [Inhabited α] {S : Shape α} {T : TypeId} {w : World} {lo hi n c : Nat} {a : Option Addr} {ps : List (Value × α)} (h : NestIn S T w lo hi (.slice a n c) ps) : Reads w w.heap.size S.k a n (ps.flatMap fun p => S.enc p.1 p.2) := by
  have e := h.len; subst e; exact h.reads
theorem NestIn.slices {α : Type} [Inhabited α] {S : Shape α} {T : TypeId} {w : World} {lo hi : Nat} {v : Value} {ps : List (Value × α)} (h : NestIn S T w lo hi v ps) : ∀ p ∈ ps, ∃ pa pn pc, p.1 = .slice pa pn pc := by
  intro p hp
  obtain ⟨i, hi', rfl⟩ := List.getElem_of_mem hp
  rw [← nth_eq ps i hi']; exact h.sl i hi'
set_option maxHeartbeats 4000000 in
theorem sRemoveItem_c (v : Value) (l : List Item) (s : ByteArray) (w : World) (hv : ItemsAt w v l) : Calls Tryz.prog 11 #[v, .string s] w (GivesItemsC (remL l s) (remCode l s) w) := by
  have HV := Lib.hid hv
  have HQ := l22Ok_c v l w hv
  have HF := Lib.hid (fun W x => l22Find_c v l s W x)
  obtain ⟨a, n, cap, rfl, hn, hl, hm, hc⟩ := hv
  have Hc := Lib.hid hc; clear hc
  cases hE : okItems l
  · rw [hE] at HQ
    have HE := Lib.hid hE
    clear hE hn
    go_enter Tryz.func11, Tryz.ntmps11
    go_wp2_with fail
    refine HQ.mono ?_
    rintro e w1 ⟨rfl, hb1⟩
    clear HQ
    go_wp2
    go_ret2
    exact GivesItemsC.none (by unfold remL; rw [HE.out]; rfl) (by unfold remCode; rw [HE.out]; rfl) hb1
  · rw [hE] at HQ
    have hn60 : n ≤ 60 := by rw [hn]; exact okItems_len hE
    have HE := Lib.hid hE
    have Hn := Lib.hid hn
    have HPb : Hid (∀ x ∈ l, x.pattern.length ≤ 1048576) := Lib.hid (fun x hx => by have := (okPat_len (okItems_pat hE x hx)).2; omega)
    clear hE hn
    rcases findI_cases (isNm s) l with hf | ⟨k, hf, hk, -, -⟩
    · have HG := Lib.hid hf
      rw [hf] at HF
      clear hf
      go_enter Tryz.func11, Tryz.ntmps11
      go_wp2_with fail
      refine HQ.mono ?_
      rintro e w1 ⟨rfl, hb1⟩
      clear HQ
      go_wp2_with fail
      refine (HF.out w1 (HV.out.below hb1)).mono ?_
      rintro e w2 ⟨rfl, hb2⟩
      go_wp2
      go_ret2
      exact GivesItemsC.none (by unfold remL; rw [HE.out, HG.out]; rfl) (by unfold remCode; rw [HE.out, HG.out]; rfl) (bthen hb1 hb2)
    · rw [hf] at HF
      have hkn : k < n := by rw [Hn.out]; exact hk
      have HR : Hid (l.take k ++ l.drop (k + 1) = remL l s) := Lib.hid (by unfold remL; rw [HE.out, if_pos rfl, hf, if_neg (by omega), Int.toNat_natCast])
      have HC : Hid (remCode l s = 0) := Lib.hid (by unfold remCode; rw [HE.out, if_pos rfl, hf, if_neg (by omega)])
      have HKL : Hid ((l.take k ++ l.drop (k + 1)).length ≤ 1048576 ∧ ∀ x ∈ l.take k ++ l.drop (k + 1), x.pattern.length ≤ 1048576) := Lib.hid (by rw [HR.out]; exact remL_ok l s)
      clear hk hf
      obtain ⟨ps, hps, hrd, hpp⟩ := nest_reads (nest_take Hc.out k)
      obtain ⟨qs, hqs, hqd, hqp⟩ := nest_reads (nest_drop Hc.out (k + 1))
      have hlt : (l.take k).length = k := by rw [List.length_take, ← Hn.out]; omega
      have hld : (l.drop (k + 1)).length = n - (k + 1) := by rw [List.length_drop, ← Hn.out]
      have HPl : Hid (ps.length = k) := Lib.hid (by rw [← hlt, ← hps]; simp)
      have HQl : Hid (qs.length = n - (k + 1)) := Lib.hid (by rw [← hld, ← hqs]; simp)
      rw [hlt] at hrd
      rw [hld] at hqd
      have HRd : Hid (∀ W, Below w.heap.size w W → Reads W W.heap.size 2 a k (ps.flatMap fun p => itemS.enc p.1 p.2)) := Lib.hid (fun W h => (hrd.below h).more h.size)
      have HQd : Hid (∀ W, Below w.heap.size w W → Reads W W.heap.size 2 (a.map fun x => x.add ((k + 1) * 2)) (n - (k + 1)) (qs.flatMap fun p => itemS.enc p.1 p.2)) := Lib.hid (fun W h => (hqd.below h).more h.size)
      have HPp := Lib.hid hpp; have HQp := Lib.hid hqp; have Hps := Lib.hid hps; have Hqs := Lib.hid hqs
      clear hps hrd hpp hqs hqd hqp hlt hld
      have hw1 : IntKind.i64.wrap ((k : Int) + 1) = (k : Int) + 1 := IntWalk.i64_in _ (by omega)
      have hi0 : (0 : Int) ≤ (k : Int) := by omega
      have hi1 : (k : Int) ≤ (cap : Int) := by omega
      have hi2 : (0 : Int) ≤ (k : Int) + 1 := by omega
      have hi3 : (k : Int) + 1 ≤ (n : Int) := by omega
      have hi4 : k ≤ cap := by omega
      have hi5 : ((k : Int) + 1).toNat = k + 1 := by omega
      rcases Decidable.em (cap = k + 1) with hcap | hcap
      · obtain rfl : cap = n := by omega
        have hkn1 : (k : Int) + 1 = (cap : Int) := by omega
        have hle := Lib.hid (show cap ≤ k + 1 by omega)
        clear hcap hi2 hi3 hi5
        rw [hkn1] at hw1
        go_enter Tryz.func11, Tryz.ntmps11
        go_wp2_with fail
        refine HQ.mono ?_
        rintro e w1 ⟨rfl, hb1⟩
        clear HQ
        go_wp2_with fail
        refine (HF.out w1 (HV.out.below hb1)).mono ?_
        rintro e w2 ⟨rfl, hb2⟩
        have hb := bthen hb1 hb2
        have hsz := hb.size
        go_wp2_with (at_builtin; refine wpList_app_items rfl _ _ rfl w2.heap.size _ 0 [] rfl (World.ownsRow_lit w2 #[] 0 (Nat.le_refl _) (by decide) rfl) _ k _ _ rfl (HRd.out _ (hb.alloc hsz _)) (items_one ps fun p hp => (HPp.out p hp).1) (by omega) (by simp) ?_)
        intro a4 n4 c4 w4 hn4 ho4 hg4 _
        have hb4 : Below w2.heap.size w2 w4 := ((Below.refl _ _).alloc (Nat.le_refl _) _).grown hg4 (by simp) (fun g hg => by simp [Value.ownBlock] at hg; omega)
        have HO4 := Lib.hid ho4
        clear ho4 hg4 hn4
        go_wp2_with (at_builtin; refine wpList_app_items rfl _ _ rfl w2.heap.size _ _ _ rfl HO4.out _ 0 _ _ rfl (by have := HQl.out; rw [List.eq_nil_of_length_eq_zero (show qs.length = 0 by have := hle.out; omega)]; exact reads_none' _ _) (items_one qs fun p hp => (HQp.out p hp).1) (by omega) hb4.size ?_)
        intro a6 n6 c6 w6 hn6 ho6 hg6 _
        have hb6 : Below w2.heap.size w2 w6 := hb4.grown hg6 hb4.size (fun g hg => (World.ownsRow.lt HO4.out g hg).1)
        have hbw6 := bthen hb hb6
        have HAT : Hid (ItemsAt w6 (.slice a6 n6 c6) (l.take k ++ l.drop (k + 1))) := Lib.hid (by
          have h := nest_at_row (S := itemS) (T := 62) (base := w2.heap.size) (v := .slice a6 n6 c6) (ps := ps ++ qs) (w := w6) (by
            rw [List.flatMap_append, List.length_append, HPl.out, HQl.out]
            have h0 := ho6
            try simp only [Nat.zero_add, List.nil_append] at h0
            first | exact h0 | (rw [show cap - (k + 1) = 0 by have := hle.out; omega]; exact h0)) (fun p hp => by
            rcases List.mem_append.1 hp with h | h
            · exact ⟨(HPp.out p h).1, (HPp.out p h).2.1.below hbw6, (HPp.out p h).2.2⟩
            · exact ⟨(HQp.out p h).1, (HQp.out p h).2.1.below hbw6, (HQp.out p h).2.2⟩)
          rw [List.map_append, Hps.out, Hqs.out] at h
          exact h)
        clear ho6 hg6 HO4 hn6 hb4
        go_wp2_with fail
        refine (l22Own_c _ (l.take k ++ l.drop (k + 1)) _ HAT.out HKL.out.1 HKL.out.2).mono ?_
        rintro e w5 ⟨a5, n5, c5, rfl, o5, hb7⟩
        have hb5 := bthen hb6 hb7
        have ho5 := OwnNest.mono (base := w2.heap.size) o5 hb6.size
        clear o5
        have HO5 : Hid (OwnItems w5 w2.heap.size (.slice a5 n5 c5) (remL l s)) := Lib.hid (by rw [← HR.out]; exact ho5)
        clear ho5
        go_wp2
        go_ret2
        exact GivesItemsC.mk HC.out (OwnNest.mono HO5.out hsz) (bthen hb hb5)
      · go_enter Tryz.func11, Tryz.ntmps11
        go_wp2_with fail
        refine HQ.mono ?_
        rintro e w1 ⟨rfl, hb1⟩
        clear HQ
        go_wp2_with fail
        refine (HF.out w1 (HV.out.below hb1)).mono ?_
        rintro e w2 ⟨rfl, hb2⟩
        have hb := bthen hb1 hb2
        have hsz := hb.size
        go_wp2_with (at_builtin; refine wpList_app_items rfl _ _ rfl w2.heap.size _ 0 [] rfl (World.ownsRow_lit w2 #[] 0 (Nat.le_refl _) (by decide) rfl) _ k _ _ rfl (HRd.out _ (hb.alloc hsz _)) (items_one ps fun p hp => (HPp.out p hp).1) (by omega) (by simp) ?_)
        intro a4 n4 c4 w4 hn4 ho4 hg4 _
        have hb4 : Below w2.heap.size w2 w4 := ((Below.refl _ _).alloc (Nat.le_refl _) _).grown hg4 (by simp) (fun g hg => by simp [Value.ownBlock] at hg; omega)
        have HO4 := Lib.hid ho4
        clear ho4 hg4 hn4
        go_wp2_with (at_builtin; refine wpList_app_items rfl _ _ rfl w2.heap.size _ _ _ rfl HO4.out _ (n - (k + 1)) _ _ rfl (HQd.out _ (bthen hb hb4)) (items_one qs fun p hp => (HQp.out p hp).1) (by omega) hb4.size ?_)
        intro a6 n6 c6 w6 hn6 ho6 hg6 _
        have hb6 : Below w2.heap.size w2 w6 := hb4.grown hg6 hb4.size (fun g hg => (World.ownsRow.lt HO4.out g hg).1)
        have hbw6 := bthen hb hb6
        have HAT : Hid (ItemsAt w6 (.slice a6 n6 c6) (l.take k ++ l.drop (k + 1))) := Lib.hid (by
          have h := nest_at_row (S := itemS) (T := 62) (base := w2.heap.size) (v := .slice a6 n6 c6) (ps := ps ++ qs) (w := w6) (by
            rw [List.flatMap_append, List.length_append, HPl.out, HQl.out]
            have h0 := ho6
            try simp only [Nat.zero_add, List.nil_append] at h0
            first | exact h0 | (rw [show cap - (k + 1) = 0 by have := hle.out; omega]; exact h0)) (fun p hp => by
            rcases List.mem_append.1 hp with h | h
            · exact ⟨(HPp.out p h).1, (HPp.out p h).2.1.below hbw6, (HPp.out p h).2.2⟩
            · exact ⟨(HQp.out p h).1, (HQp.out p h).2.1.below hbw6, (HQp.out p h).2.2⟩)
          rw [List.map_append, Hps.out, Hqs.out] at h
          exact h)
        clear ho6 hg6 HO4 hn6 hb4
        go_wp2_with fail
        refine (l22Own_c _ (l.take k ++ l.drop (k + 1)) _ HAT.out HKL.out.1 HKL.out.2).mono ?_
        rintro e w5 ⟨a5, n5, c5, rfl, o5, hb7⟩
        have hb5 := bthen hb6 hb7
        have ho5 := OwnNest.mono (base := w2.heap.size) o5 hb6.size
        clear o5
        have HO5 : Hid (OwnItems w5 w2.heap.size (.slice a5 n5 c5) (remL l s)) := Lib.hid (by rw [← HR.out]; exact ho5)
        clear ho5
        go_wp2
        go_ret2
        exact GivesItemsC.mk HC.out (OwnNest.mono HO5.out hsz) (bthen hb hb5)
set_option maxHeartbeats 4000000 in
theorem iRemoveItem_c (v : Value) (l : List Item) (s : ByteArray) (w : World) (hv : ItemsAt w v l) : Calls Tryz.prog 10 #[v, .string s] w (GivesItemsC (remL l s) (remCode l s) w) := by
  have HV := Lib.hid hv
  have HQ := iValidItems_c v l w hv
  have HF := Lib.hid (fun W x => itemNamed_c v l s W x)
  obtain ⟨a, n, cap, rfl, hn, hl, hm, hc⟩ := hv
  have Hc := Lib.hid hc; clear hc
  cases hE : okItems l
  · rw [hE] at HQ
    have HE := Lib.hid hE
    clear hE hn
    go_enter Tryz.func10, Tryz.ntmps10
    go_wp2_with fail
    refine HQ.mono ?_
    rintro e w1 ⟨rfl, hb1⟩
    clear HQ
    go_wp2
    go_ret2
    exact GivesItemsC.none (by unfold remL; rw [HE.out]; rfl) (by unfold remCode; rw [HE.out]; rfl) hb1
  · rw [hE] at HQ
    have hn60 : n ≤ 60 := by rw [hn]; exact okItems_len hE
    have HE := Lib.hid hE
    have Hn := Lib.hid hn
    have HPb : Hid (∀ x ∈ l, x.pattern.length ≤ 1048576) := Lib.hid (fun x hx => by have := (okPat_len (okItems_pat hE x hx)).2; omega)
    clear hE hn
    rcases findI_cases (isNm s) l with hf | ⟨k, hf, hk, -, -⟩
    · have HG := Lib.hid hf
      rw [hf] at HF
      clear hf
      go_enter Tryz.func10, Tryz.ntmps10
      go_wp2_with fail
      refine HQ.mono ?_
      rintro e w1 ⟨rfl, hb1⟩
      clear HQ
      go_wp2_with fail
      refine (HF.out w1 (HV.out.below hb1)).mono ?_
      rintro e w2 ⟨rfl, hb2⟩
      go_wp2
      go_ret2
      exact GivesItemsC.none (by unfold remL; rw [HE.out, HG.out]; rfl) (by unfold remCode; rw [HE.out, HG.out]; rfl) (bthen hb1 hb2)
    · rw [hf] at HF
      have hkn : k < n := by rw [Hn.out]; exact hk
      have HR : Hid (l.take k ++ l.drop (k + 1) = remL l s) := Lib.hid (by unfold remL; rw [HE.out, if_pos rfl, hf, if_neg (by omega), Int.toNat_natCast])
      have HC : Hid (remCode l s = 0) := Lib.hid (by unfold remCode; rw [HE.out, if_pos rfl, hf, if_neg (by omega)])
      have HKL : Hid ((l.take k ++ l.drop (k + 1)).length ≤ 1048576 ∧ ∀ x ∈ l.take k ++ l.drop (k + 1), x.pattern.length ≤ 1048576) := Lib.hid (by rw [HR.out]; exact remL_ok l s)
      clear hk hf
      obtain ⟨ps, hps, hrd, hpp⟩ := nest_reads (nest_take Hc.out k)
      obtain ⟨qs, hqs, hqd, hqp⟩ := nest_reads (nest_drop Hc.out (k + 1))
      have hlt : (l.take k).length = k := by rw [List.length_take, ← Hn.out]; omega
      have hld : (l.drop (k + 1)).length = n - (k + 1) := by rw [List.length_drop, ← Hn.out]
      have HPl : Hid (ps.length = k) := Lib.hid (by rw [← hlt, ← hps]; simp)
      have HQl : Hid (qs.length = n - (k + 1)) := Lib.hid (by rw [← hld, ← hqs]; simp)
      rw [hlt] at hrd
      rw [hld] at hqd
      have HRd : Hid (∀ W, Below w.heap.size w W → Reads W W.heap.size 2 a k (ps.flatMap fun p => itemS.enc p.1 p.2)) := Lib.hid (fun W h => (hrd.below h).more h.size)
      have HQd : Hid (∀ W, Below w.heap.size w W → Reads W W.heap.size 2 (a.map fun x => x.add ((k + 1) * 2)) (n - (k + 1)) (qs.flatMap fun p => itemS.enc p.1 p.2)) := Lib.hid (fun W h => (hqd.below h).more h.size)
      have HPp := Lib.hid hpp; have HQp := Lib.hid hqp; have Hps := Lib.hid hps; have Hqs := Lib.hid hqs
      clear hps hrd hpp hqs hqd hqp hlt hld
      have hw1 : IntKind.i64.wrap ((k : Int) + 1) = (k : Int) + 1 := IntWalk.i64_in _ (by omega)
      have hi0 : (0 : Int) ≤ (k : Int) := by omega
      have hi1 : (k : Int) ≤ (cap : Int) := by omega
      have hi2 : (0 : Int) ≤ (k : Int) + 1 := by omega
      have hi3 : (k : Int) + 1 ≤ (n : Int) := by omega
      have hi4 : k ≤ cap := by omega
      have hi5 : ((k : Int) + 1).toNat = k + 1 := by omega
      rcases Decidable.em (cap = k + 1) with hcap | hcap
      · obtain rfl : cap = n := by omega
        have hkn1 : (k : Int) + 1 = (cap : Int) := by omega
        have hle := Lib.hid (show cap ≤ k + 1 by omega)
        clear hcap hi2 hi3 hi5
        rw [hkn1] at hw1
        go_enter Tryz.func10, Tryz.ntmps10
        go_wp2_with fail
        refine HQ.mono ?_
        rintro e w1 ⟨rfl, hb1⟩
        clear HQ
        go_wp2_with fail
        refine (HF.out w1 (HV.out.below hb1)).mono ?_
        rintro e w2 ⟨rfl, hb2⟩
        have hb := bthen hb1 hb2
        have hsz := hb.size
        have KA := Lib.hid (fun W (x : ItemsAt W (.slice a k cap) (l.take k)) => copyItems_c _ _ W x (by rw [List.length_take]; omega) (fun y hy => HPb.out y (List.mem_of_mem_take hy)))
        have KB := Lib.hid (fun W u (x : ItemsAt W u (l.drop (k + 1))) => copyItems_c u _ W x (by rw [List.length_drop]; have := okItems_len HE.out; omega) (fun y hy => HPb.out y (List.mem_of_mem_drop hy)))
        have HTl : Hid ((l.take k).length = k) := Lib.hid (by rw [List.length_take, ← Hn.out]; omega)
        have HDl : Hid ((l.drop (k + 1)).length ≤ 60) := Lib.hid (by rw [List.length_drop]; have := okItems_len HE.out; omega)
        go_wp2
        refine wp_region_held_drew (S := fun w' => Below w2.heap.size w2 w') (by kernel_rfl) (by exact (Below.refl _ _).drew) (fun hHeld => ?_)
        refine wpAnyH_take (i := 0) (oi := ⟨_, _, _, _, _, _⟩) (v := ?_) rfl (by kernel_rfl) (by kernel_rfl) (by kernel_rfl) (fun _ _ _ h => h) (Or.inl ⟨by rfl, ?_⟩) (by assumption) ?_; rotate_left; (focus (intro w hSw; (try dsimp only at hSw); go_simp; try with_reducible rfl)); (try simp only [Act.put, List.setIfInBounds_toArray, List.set_cons_zero, List.set_cons_succ])
        refine wpAnyH_take (i := 1) (oi := ⟨_, _, _, _, _, _⟩) (v := ?_) rfl (by kernel_rfl) (by kernel_rfl) (by kernel_rfl) (fun _ _ _ h => h) (Or.inl ⟨by rfl, ?_⟩) (by assumption) ?_; rotate_left; (focus (intro w hSw; (try dsimp only at hSw); go_simp; try with_reducible rfl)); (try simp only [Act.put, List.setIfInBounds_toArray, List.set_cons_zero, List.set_cons_succ])
        refine wpAnyH_take (i := 2) (oi := ⟨_, _, _, _, _, _⟩) (v := ?_) rfl (by kernel_rfl) (by kernel_rfl) (by kernel_rfl) (fun _ _ _ h => h) (Or.inl ⟨by rfl, ?_⟩) (by assumption) ?_; rotate_left; (focus (intro w hSw; (try dsimp only at hSw); go_simp; try with_reducible rfl)); (try simp only [Act.put, List.setIfInBounds_toArray, List.set_cons_zero, List.set_cons_succ])
        refine wpAnyH_take (i := 4) (oi := ⟨_, _, _, _, _, _⟩) (v := ?_) rfl (by kernel_rfl) (by kernel_rfl) (by kernel_rfl) (fun _ _ _ h => h) (Or.inl ⟨by rfl, ?_⟩) (by assumption) ?_; rotate_left; (focus (intro w hSw; (try dsimp only at hSw); go_simp; try with_reducible rfl)); (try simp only [Act.put, List.setIfInBounds_toArray, List.set_cons_zero, List.set_cons_succ])
        refine wpAnyH_take (i := 5) (oi := ⟨_, _, _, _, _, _⟩) (v := ?_) rfl (by kernel_rfl) (by kernel_rfl) (by kernel_rfl) (fun _ _ _ h => h) (Or.inl ⟨by rfl, ?_⟩) (by assumption) ?_; rotate_left; (focus (intro w hSw; (try dsimp only at hSw); go_simp; try with_reducible rfl)); (try simp only [Act.put, List.setIfInBounds_toArray, List.set_cons_zero, List.set_cons_succ])
        refine wpAnyH_take (i := 6) (oi := ⟨_, _, _, _, _, _⟩) (v := ?_) rfl (by kernel_rfl) (by kernel_rfl) (by kernel_rfl) (fun _ _ _ h => h) (Or.inl ⟨by rfl, ?_⟩) (by assumption) ?_; rotate_left; (focus (intro w hSw; (try dsimp only at hSw); go_simp; try with_reducible rfl)); (try simp only [Act.put, List.setIfInBounds_toArray, List.set_cons_zero, List.set_cons_succ])
        refine wpAnyH_take (i := 7) (oi := ⟨_, _, _, _, _, _⟩) (v := ?_) rfl (by kernel_rfl) (by kernel_rfl) (by kernel_rfl) (fun _ _ _ h => h) (Or.inl ⟨by rfl, ?_⟩) (by assumption) ?_; rotate_left; (focus (intro w hSw; (try dsimp only at hSw); go_simp; try with_reducible rfl)); (try simp only [Act.put, List.setIfInBounds_toArray, List.set_cons_zero, List.set_cons_succ])
        refine wpAnyH_ready (rs := [3]) (by kernel_rfl) (by simp) ?_
        refine AllReadyH.cons (o := ⟨_, _, _, _, _, _⟩) rfl (fun K hK => ?_) AllReadyH.nil
        go_simp
        go_at_call 53; (with_reducible refine (KA.out _ (items_front (Hc.out.below (bthen hb hHeld)) Hn.out (by omega) hl hm)).mono ?_); rintro e x1 ⟨a3, n3, c3, rfl, o3, d3⟩; have HA : Hid (InNest itemS 62 x1 w2.heap.size x1.heap.size (.slice a3 n3 c3) (l.take k)) := Lib.hid (InNest.of o3); have hS' := bthen hHeld d3; clear o3 d3; have h1S := hS'
        refine hK.out _ _ (by exact hS') (fun hHeld' => ?_)
        clear hHeld hK K
        have hHeld := hHeld'
        clear hHeld'
        try simp only [Act.put, List.setIfInBounds_toArray, List.set_cons_zero, List.set_cons_succ]
        refine wpAnyH_ready (rs := [8]) (by kernel_rfl) (by simp) ?_
        refine AllReadyH.cons (o := ⟨_, _, _, _, _, _⟩) rfl (fun K hK => ?_) AllReadyH.nil
        go_simp
        go_at_call 53; (with_reducible refine (KB.out _ _ (by rw [List.drop_eq_nil_of_le (show l.length ≤ k + 1 by rw [← Hn.out]; exact hle.out)]; exact items_none _ _ _ (by omega))).mono ?_); rintro e x2 ⟨a6, n6, c6, rfl, o6, d6⟩; have HB : Hid (InNest itemS 62 x2 x1.heap.size x2.heap.size (.slice a6 n6 c6) (l.drop (k + 1))) := Lib.hid (InNest.of o6); have HA2 := Lib.hid (HA.out.below d6); have hS' := bthen hHeld d6; have hx12 := d6.size; clear o6 d6; obtain ⟨ps2, hps2, hN2⟩ := HA2.out; obtain ⟨qs2, hqs2, hM2⟩ := HB.out; have hpl2 : ps2.length = k := by rw [← HTl.out, ← hps2]; simp
        refine hK.out _ _ (by exact hS') (fun hHeld' => ?_)
        clear hHeld hK K
        have hHeld := hHeld'
        clear hHeld'
        try simp only [Act.put, List.setIfInBounds_toArray, List.set_cons_zero, List.set_cons_succ]
        refine wpAnyH_ready (rs := [9]) (by kernel_rfl) (by simp) ?_
        refine AllReadyH.cons (o := ⟨_, _, _, _, _, _⟩) rfl (fun K hK => ?_) AllReadyH.nil
        refine step_app_items rfl _ _ rfl w2.heap.size _ ps2.length _ rfl hN2.row.1 _ n6 _ _ rfl hM2.reads' (items_one qs2 hM2.slices) (by have := hM2.len; have h3 := congrArg List.length hqs2; rw [List.length_map] at h3; have := HDl.out; omega) hHeld.size ?_; intro a5 n5 c5 w5 ho5 hg5 hl5; have hS' : Below w2.heap.size w2 w5 := hHeld.grown hg5 hHeld.size (fun g hg => (hN2.row.1.lt g hg).1)
        refine hK.out _ _ (by exact hS') (fun hHeld' => ?_)
        clear hHeld hK K
        have hHeld := hHeld'
        clear hHeld'
        try simp only [Act.put, List.setIfInBounds_toArray, List.set_cons_zero, List.set_cons_succ]
        refine wpAnyH_take (i := 10) (oi := ⟨_, _, _, _, _, _⟩) (v := ?_) rfl (by kernel_rfl) (by kernel_rfl) (by kernel_rfl) (fun _ _ _ h => h) (Or.inl ⟨by rfl, ?_⟩) (by assumption) ?_; rotate_left; (focus (intro w hSw; (try dsimp only at hSw); go_simp; try with_reducible rfl)); (try simp only [Act.put, List.setIfInBounds_toArray, List.set_cons_zero, List.set_cons_succ])
        refine wpAnyH_take (i := 11) (oi := ⟨_, _, _, _, _, _⟩) (v := ?_) rfl (by kernel_rfl) (by kernel_rfl) (by kernel_rfl) (fun _ _ _ h => h) (Or.inl ⟨by rfl, ?_⟩) (by assumption) ?_; rotate_left; (focus (intro w hSw; (try dsimp only at hSw); go_simp; try with_reducible rfl)); (try simp only [Act.put, List.setIfInBounds_toArray, List.set_cons_zero, List.set_cons_succ])
        refine wpAnyH_done (by kernel_rfl) ?_ _
        have hb5 := hHeld
        have ho5 : OwnItems w5 w2.heap.size (.slice a5 n5 c5) (l.take k ++ l.drop (k + 1)) := by
          have h := nest_append hN2 hM2 h1S.size hx12 (by have e := hM2.len; rw [← e]; exact ho5) hg5 hl5
          rw [hps2, hqs2] at h
          exact h
        clear hg5 hl5 hN2 hM2 hps2 hqs2 hpl2 hx12 h1S
        clear hHeld
        have HO5 : Hid (OwnItems w5 w2.heap.size (.slice a5 n5 c5) (remL l s)) := Lib.hid (by rw [← HR.out]; exact ho5)
        clear ho5
        go_wp2
        go_ret2
        exact GivesItemsC.mk HC.out (OwnNest.mono HO5.out hsz) (bthen hb hb5)
      · go_enter Tryz.func10, Tryz.ntmps10
        go_wp2_with fail
        refine HQ.mono ?_
        rintro e w1 ⟨rfl, hb1⟩
        clear HQ
        go_wp2_with fail
        refine (HF.out w1 (HV.out.below hb1)).mono ?_
        rintro e w2 ⟨rfl, hb2⟩
        have hb := bthen hb1 hb2
        have hsz := hb.size
        have KA := Lib.hid (fun W (x : ItemsAt W (.slice a k cap) (l.take k)) => copyItems_c _ _ W x (by rw [List.length_take]; omega) (fun y hy => HPb.out y (List.mem_of_mem_take hy)))
        have KB := Lib.hid (fun W u (x : ItemsAt W u (l.drop (k + 1))) => copyItems_c u _ W x (by rw [List.length_drop]; have := okItems_len HE.out; omega) (fun y hy => HPb.out y (List.mem_of_mem_drop hy)))
        have HTl : Hid ((l.take k).length = k) := Lib.hid (by rw [List.length_take, ← Hn.out]; omega)
        have HDl : Hid ((l.drop (k + 1)).length ≤ 60) := Lib.hid (by rw [List.length_drop]; have := okItems_len HE.out; omega)
        go_wp2
        refine wp_region_held_drew (S := fun w' => Below w2.heap.size w2 w') (by kernel_rfl) (by exact (Below.refl _ _).drew) (fun hHeld => ?_)
        refine wpAnyH_take (i := 0) (oi := ⟨_, _, _, _, _, _⟩) (v := ?_) rfl (by kernel_rfl) (by kernel_rfl) (by kernel_rfl) (fun _ _ _ h => h) (Or.inl ⟨by rfl, ?_⟩) (by assumption) ?_; rotate_left; (focus (intro w hSw; (try dsimp only at hSw); go_simp; try with_reducible rfl)); (try simp only [Act.put, List.setIfInBounds_toArray, List.set_cons_zero, List.set_cons_succ])
        refine wpAnyH_take (i := 1) (oi := ⟨_, _, _, _, _, _⟩) (v := ?_) rfl (by kernel_rfl) (by kernel_rfl) (by kernel_rfl) (fun _ _ _ h => h) (Or.inl ⟨by rfl, ?_⟩) (by assumption) ?_; rotate_left; (focus (intro w hSw; (try dsimp only at hSw); go_simp; try with_reducible rfl)); (try simp only [Act.put, List.setIfInBounds_toArray, List.set_cons_zero, List.set_cons_succ])
        refine wpAnyH_take (i := 2) (oi := ⟨_, _, _, _, _, _⟩) (v := ?_) rfl (by kernel_rfl) (by kernel_rfl) (by kernel_rfl) (fun _ _ _ h => h) (Or.inl ⟨by rfl, ?_⟩) (by assumption) ?_; rotate_left; (focus (intro w hSw; (try dsimp only at hSw); go_simp; try with_reducible rfl)); (try simp only [Act.put, List.setIfInBounds_toArray, List.set_cons_zero, List.set_cons_succ])
        refine wpAnyH_take (i := 4) (oi := ⟨_, _, _, _, _, _⟩) (v := ?_) rfl (by kernel_rfl) (by kernel_rfl) (by kernel_rfl) (fun _ _ _ h => h) (Or.inl ⟨by rfl, ?_⟩) (by assumption) ?_; rotate_left; (focus (intro w hSw; (try dsimp only at hSw); go_simp; try with_reducible rfl)); (try simp only [Act.put, List.setIfInBounds_toArray, List.set_cons_zero, List.set_cons_succ])
        refine wpAnyH_take (i := 5) (oi := ⟨_, _, _, _, _, _⟩) (v := ?_) rfl (by kernel_rfl) (by kernel_rfl) (by kernel_rfl) (fun _ _ _ h => h) (Or.inl ⟨by rfl, ?_⟩) (by assumption) ?_; rotate_left; (focus (intro w hSw; (try dsimp only at hSw); go_simp; try with_reducible rfl)); (try simp only [Act.put, List.setIfInBounds_toArray, List.set_cons_zero, List.set_cons_succ])
        refine wpAnyH_take (i := 6) (oi := ⟨_, _, _, _, _, _⟩) (v := ?_) rfl (by kernel_rfl) (by kernel_rfl) (by kernel_rfl) (fun _ _ _ h => h) (Or.inl ⟨by rfl, ?_⟩) (by assumption) ?_; rotate_left; (focus (intro w hSw; (try dsimp only at hSw); go_simp; try with_reducible rfl)); (try simp only [Act.put, List.setIfInBounds_toArray, List.set_cons_zero, List.set_cons_succ])
        refine wpAnyH_take (i := 7) (oi := ⟨_, _, _, _, _, _⟩) (v := ?_) rfl (by kernel_rfl) (by kernel_rfl) (by kernel_rfl) (fun _ _ _ h => h) (Or.inl ⟨by rfl, ?_⟩) (by assumption) ?_; rotate_left; (focus (intro w hSw; (try dsimp only at hSw); go_simp; try with_reducible rfl)); (try simp only [Act.put, List.setIfInBounds_toArray, List.set_cons_zero, List.set_cons_succ])
        refine wpAnyH_ready (rs := [3]) (by kernel_rfl) (by simp) ?_
        refine AllReadyH.cons (o := ⟨_, _, _, _, _, _⟩) rfl (fun K hK => ?_) AllReadyH.nil
        go_simp
        go_at_call 53; (with_reducible refine (KA.out _ (items_front (Hc.out.below (bthen hb hHeld)) Hn.out (by omega) hl hm)).mono ?_); rintro e x1 ⟨a3, n3, c3, rfl, o3, d3⟩; have HA : Hid (InNest itemS 62 x1 w2.heap.size x1.heap.size (.slice a3 n3 c3) (l.take k)) := Lib.hid (InNest.of o3); have hS' := bthen hHeld d3; clear o3 d3; have h1S := hS'
        refine hK.out _ _ (by exact hS') (fun hHeld' => ?_)
        clear hHeld hK K
        have hHeld := hHeld'
        clear hHeld'
        try simp only [Act.put, List.setIfInBounds_toArray, List.set_cons_zero, List.set_cons_succ]
        refine wpAnyH_ready (rs := [8]) (by kernel_rfl) (by simp) ?_
        refine AllReadyH.cons (o := ⟨_, _, _, _, _, _⟩) rfl (fun K hK => ?_) AllReadyH.nil
        go_simp
        go_at_call 53; (with_reducible refine (KB.out _ _ (items_back (Hc.out.below (bthen hb hHeld)) Hn.out hl hm)).mono ?_); rintro e x2 ⟨a6, n6, c6, rfl, o6, d6⟩; have HB : Hid (InNest itemS 62 x2 x1.heap.size x2.heap.size (.slice a6 n6 c6) (l.drop (k + 1))) := Lib.hid (InNest.of o6); have HA2 := Lib.hid (HA.out.below d6); have hS' := bthen hHeld d6; have hx12 := d6.size; clear o6 d6; obtain ⟨ps2, hps2, hN2⟩ := HA2.out; obtain ⟨qs2, hqs2, hM2⟩ := HB.out; have hpl2 : ps2.length = k := by rw [← HTl.out, ← hps2]; simp
        refine hK.out _ _ (by exact hS') (fun hHeld' => ?_)
        clear hHeld hK K
        have hHeld := hHeld'
        clear hHeld'
        try simp only [Act.put, List.setIfInBounds_toArray, List.set_cons_zero, List.set_cons_succ]
        refine wpAnyH_ready (rs := [9]) (by kernel_rfl) (by simp) ?_
        refine AllReadyH.cons (o := ⟨_, _, _, _, _, _⟩) rfl (fun K hK => ?_) AllReadyH.nil
        refine step_app_items rfl _ _ rfl w2.heap.size _ ps2.length _ rfl hN2.row.1 _ n6 _ _ rfl hM2.reads' (items_one qs2 hM2.slices) (by have := hM2.len; have h3 := congrArg List.length hqs2; rw [List.length_map] at h3; have := HDl.out; omega) hHeld.size ?_; intro a5 n5 c5 w5 ho5 hg5 hl5; have hS' : Below w2.heap.size w2 w5 := hHeld.grown hg5 hHeld.size (fun g hg => (hN2.row.1.lt g hg).1)
        refine hK.out _ _ (by exact hS') (fun hHeld' => ?_)
        clear hHeld hK K
        have hHeld := hHeld'
        clear hHeld'
        try simp only [Act.put, List.setIfInBounds_toArray, List.set_cons_zero, List.set_cons_succ]
        refine wpAnyH_take (i := 10) (oi := ⟨_, _, _, _, _, _⟩) (v := ?_) rfl (by kernel_rfl) (by kernel_rfl) (by kernel_rfl) (fun _ _ _ h => h) (Or.inl ⟨by rfl, ?_⟩) (by assumption) ?_; rotate_left; (focus (intro w hSw; (try dsimp only at hSw); go_simp; try with_reducible rfl)); (try simp only [Act.put, List.setIfInBounds_toArray, List.set_cons_zero, List.set_cons_succ])
        refine wpAnyH_take (i := 11) (oi := ⟨_, _, _, _, _, _⟩) (v := ?_) rfl (by kernel_rfl) (by kernel_rfl) (by kernel_rfl) (fun _ _ _ h => h) (Or.inl ⟨by rfl, ?_⟩) (by assumption) ?_; rotate_left; (focus (intro w hSw; (try dsimp only at hSw); go_simp; try with_reducible rfl)); (try simp only [Act.put, List.setIfInBounds_toArray, List.set_cons_zero, List.set_cons_succ])
        refine wpAnyH_done (by kernel_rfl) ?_ _
        have hb5 := hHeld
        have ho5 : OwnItems w5 w2.heap.size (.slice a5 n5 c5) (l.take k ++ l.drop (k + 1)) := by
          have h := nest_append hN2 hM2 h1S.size hx12 (by have e := hM2.len; rw [← e]; exact ho5) hg5 hl5
          rw [hps2, hqs2] at h
          exact h
        clear hg5 hl5 hN2 hM2 hps2 hqs2 hpl2 hx12 h1S
        clear hHeld
        have HO5 : Hid (OwnItems w5 w2.heap.size (.slice a5 n5 c5) (remL l s)) := Lib.hid (by rw [← HR.out]; exact ho5)
        clear ho5
        go_wp2
        go_ret2
        exact GivesItemsC.mk HC.out (OwnNest.mono HO5.out hsz) (bthen hb hb5)
end Go.Proofs.YtcgbdhbdlnimhaaGreat

/- ItemAsk: PatternNamed and NameOf, by both packages. -/
namespace Go.Proofs.YtcgbdhbdlnimhaaGreat
open Go.ChangeShapes Go.WideShapes Go.ChangeAt Go.RowKit

def patNamedL (l : List Item) (s : ByteArray) : List Int := if okItems l then (if findI (isNm s) l < 0 then [] else (nth l (findI (isNm s) l).toNat).pattern) else []
def patNamedCode (l : List Item) (s : ByteArray) : Int := if okItems l then (if findI (isNm s) l < 0 then 3 else 0) else 1
theorem patNamedL_len (l : List Item) (s : ByteArray) : (patNamedL l s).length ≤ 1099511627776 := by
  unfold patNamedL
  split
  · rename_i h
    split
    · simp
    · rcases findI_cases (isNm s) l with e | ⟨k, e, hk, -, -⟩
      · omega
      · rw [e, Int.toNat_natCast]
        have := (okPat_len (okItemAt_pat (okItems_at h hk))).2
        omega
  · simp
set_option maxHeartbeats 1000000 in
theorem iPatternNamed_c (v : Value) (l : List Item) (s : ByteArray) (w : World) (hv : ItemsAt w v l) : Calls Tryz.prog 21 #[v, .string s] w (GivesIntsC (patNamedL l s) (patNamedCode l s) w) := by
  have HV := Lib.hid hv
  have HQ := iValidItems_c v l w hv
  have HF := Lib.hid (fun W x => itemNamed_c v l s W x)
  obtain ⟨a, n, cap, rfl, hn, hl, hm, hc⟩ := hv
  have Hc := Lib.hid hc; clear hc
  cases hE : okItems l
  · rw [hE] at HQ
    have HE := Lib.hid hE
    clear hE hn
    go_enter Tryz.func21, Tryz.ntmps21
    go_wp2_with fail
    refine HQ.mono ?_
    rintro e w1 ⟨rfl, hb1⟩
    clear HQ
    go_wp2
    go_ret2
    exact GivesIntsC.none (by unfold patNamedL; rw [HE.out]; rfl) (by unfold patNamedCode; rw [HE.out]; rfl) hb1
  · rw [hE] at HQ
    have HE := Lib.hid hE
    have Hn := Lib.hid hn
    clear hE hn
    rcases findI_cases (isNm s) l with hf | ⟨k, hf, hk, -, -⟩
    · have HG := Lib.hid hf
      rw [hf] at HF
      clear hf
      go_enter Tryz.func21, Tryz.ntmps21
      go_wp2_with fail
      refine HQ.mono ?_
      rintro e w1 ⟨rfl, hb1⟩
      clear HQ
      go_wp2_with fail
      refine (HF.out w1 (HV.out.below hb1)).mono ?_
      rintro e w2 ⟨rfl, hb2⟩
      go_wp2
      go_ret2
      exact GivesIntsC.none (by unfold patNamedL; rw [HE.out, HG.out]; rfl) (by unfold patNamedCode; rw [HE.out, HG.out]; rfl) (bthen hb1 hb2)
    · rw [hf] at HF
      have HR : Hid ((nth l k).pattern = patNamedL l s) := Lib.hid (by unfold patNamedL; rw [HE.out, if_pos rfl, hf, if_neg (by omega), Int.toNat_natCast])
      have HC : Hid (patNamedCode l s = 0) := Lib.hid (by unfold patNamedCode; rw [HE.out, if_pos rfl, hf, if_neg (by omega)])
      have hkn : k < n := by rw [Hn.out]; exact hk
      have hlen : (nth l k).pattern.length ≤ 1048576 := by have := (okPat_len (okItemAt_pat (okItems_at HE.out hk))).2; omega
      have Hk := Lib.hid hk
      clear hf hk
      go_enter Tryz.func21, Tryz.ntmps21
      go_wp2_with fail
      refine HQ.mono ?_
      rintro e w1 ⟨rfl, hb1⟩
      clear HQ
      go_wp2_with fail
      refine (HF.out w1 (HV.out.below hb1)).mono ?_
      rintro e w2 ⟨rfl, hb2⟩
      have hb := bthen hb1 hb2
      obtain ⟨b, o, pa, pn, pc, rfl, hbs, hsz, hp, c0, c1⟩ := item_cells (Hc.out.below hb) k Hk.out
      have HP := Lib.hid hp; clear hp
      go_wp2_with fail
      refine (copyNumbers_c _ _ _ HP.out hlen).mono ?_
      rintro e w3 ⟨a3, n3, c3, rfl, o3, hb3⟩
      have HO : Hid (OwnInts w3 w.heap.size (.slice a3 n3 c3) (patNamedL l s)) := Lib.hid (by rw [← HR.out]; exact own_mono o3 hb.size)
      clear o3
      go_wp2
      go_ret2
      exact GivesIntsC.mk HC.out HO.out (bthen hb hb3)

def nameOfK (l : List Item) (p : List Int) : Int := findI (isPt (canL p)) l
def nameOfS (l : List Item) (p : List Int) : ByteArray := if okItems l && okPat p then (if nameOfK l p < 0 then ByteArray.empty else (nth l (nameOfK l p).toNat).name) else ByteArray.empty
def nameOfCode (l : List Item) (p : List Int) : Int := if okItems l && okPat p then (if nameOfK l p < 0 then 3 else 0) else 1
theorem Gives.si {a1 b1 : ByteArray} {a2 b2 : Int} {k2 : IntKind} {w w' : World} (h1 : a1 = b1) (h2 : a2 = b2) (hb : Below w.heap.size w w') : Gives (.tuple #[.string a1, .int k2 a2]) w (.returned (.tuple #[.string b1, .int k2 b2])) w' := ⟨by rw [h1, h2], hb⟩
set_option maxHeartbeats 2000000 in
theorem sNameOf_c (v u : Value) (l : List Item) (p : List Int) (w : World) (hv : ItemsAt w v l) (hu : IntsAt w u p) : Calls Tryz.prog 14 #[v, u] w (Gives (.tuple #[.string (nameOfS l p), .int .i64 (nameOfCode l p)]) w) := by
  have HV := Lib.hid hv
  have HU := Lib.hid hu
  have HQ := l22Ok_c v l w hv
  have HQ2 := Lib.hid (fun W x => l02Ok_c u p W x)
  have HF := Lib.hid (fun W z x y => l22Like_c v z l (canL p) W x y)
  obtain ⟨a, n, cap, rfl, hn, hl, hm, hc⟩ := hv
  have Hc := Lib.hid hc; clear hc
  obtain ⟨ua, un, uc, rfl, -⟩ := hu
  cases hE : okItems l
  · rw [hE] at HQ
    have HE := Lib.hid hE
    clear hE hn
    go_enter Tryz.func14, Tryz.ntmps14
    go_wp2_with fail
    refine HQ.mono ?_
    rintro e w1 ⟨rfl, hb1⟩
    clear HQ
    go_wp2
    go_ret2
    exact Gives.si (by unfold nameOfS; rw [HE.out]; rfl) (by unfold nameOfCode; rw [HE.out]; rfl) hb1
  · rw [hE] at HQ
    have HE := Lib.hid hE
    have Hn := Lib.hid hn
    clear hE hn
    cases hE2 : okPat p
    · rw [hE2] at HQ2
      have HE2 := Lib.hid hE2
      clear hE2
      go_enter Tryz.func14, Tryz.ntmps14
      go_wp2_with fail
      refine HQ.mono ?_
      rintro e w1 ⟨rfl, hb1⟩
      clear HQ
      go_wp2_with fail
      refine (HQ2.out w1 (HU.out.below hb1)).mono ?_
      rintro e w2 ⟨rfl, hb2⟩
      go_wp2
      go_ret2
      exact Gives.si (by unfold nameOfS; rw [HE.out, HE2.out]; rfl) (by unfold nameOfCode; rw [HE.out, HE2.out]; rfl) (bthen hb1 hb2)
    · rw [hE2] at HQ2
      have HE2 := Lib.hid hE2
      clear hE2
      rcases findI_cases (isPt (canL p)) l with hf | ⟨k, hf, hk, -, -⟩
      · have HG : Hid (nameOfK l p = -1) := Lib.hid hf
        rw [hf] at HF
        clear hf
        go_enter Tryz.func14, Tryz.ntmps14
        go_wp2_with fail
        refine HQ.mono ?_
        rintro e w1 ⟨rfl, hb1⟩
        clear HQ
        go_wp2_with fail
        refine (HQ2.out w1 (HU.out.below hb1)).mono ?_
        rintro e w2 ⟨rfl, hb2⟩
        have hb := bthen hb1 hb2
        go_wp2_with fail
        refine (canonicalPattern_c _ p w2 (HU.out.below hb) HE2.out).mono ?_
        rintro e w3 ⟨a3, n3, c3, rfl, o3, hb3⟩
        have hb' := bthen hb hb3
        have HC3 := Lib.hid (OwnInts.at o3); clear o3
        go_wp2_with fail
        refine (HF.out w3 _ (HV.out.below hb') HC3.out).mono ?_
        rintro e w4 ⟨rfl, hb4⟩
        go_wp2
        go_ret2
        exact Gives.si (by unfold nameOfS; rw [HE.out, HE2.out, HG.out]; rfl) (by unfold nameOfCode; rw [HE.out, HE2.out, HG.out]; rfl) (bthen hb' hb4)
      · have HG : Hid (nameOfK l p = (k : Int)) := Lib.hid hf
        rw [hf] at HF
        have hkn : k < n := by rw [Hn.out]; exact hk
        have Hk := Lib.hid hk
        clear hf hk
        go_enter Tryz.func14, Tryz.ntmps14
        go_wp2_with fail
        refine HQ.mono ?_
        rintro e w1 ⟨rfl, hb1⟩
        clear HQ
        go_wp2_with fail
        refine (HQ2.out w1 (HU.out.below hb1)).mono ?_
        rintro e w2 ⟨rfl, hb2⟩
        have hb := bthen hb1 hb2
        go_wp2_with fail
        refine (canonicalPattern_c _ p w2 (HU.out.below hb) HE2.out).mono ?_
        rintro e w3 ⟨a3, n3, c3, rfl, o3, hb3⟩
        have hb' := bthen hb hb3
        have HC3 := Lib.hid (OwnInts.at o3); clear o3
        go_wp2_with fail
        refine (HF.out w3 _ (HV.out.below hb') HC3.out).mono ?_
        rintro e w4 ⟨rfl, hb4⟩
        have hb5 := bthen hb' hb4
        obtain ⟨b, o, pa, pn, pc, rfl, hbs, hsz, hp, c0, c1⟩ := item_cells (Hc.out.below hb5) k Hk.out
        clear hp
        go_wp2
        go_ret2
        exact Gives.si (by unfold nameOfS; rw [HE.out, HE2.out, HG.out, Bool.and_self, if_pos rfl, if_neg (by omega), Int.toNat_natCast]) (by unfold nameOfCode; rw [HE.out, HE2.out, HG.out, Bool.and_self, if_pos rfl, if_neg (by omega)]) hb5
set_option maxHeartbeats 2000000 in
theorem iNameOf_c (v u : Value) (l : List Item) (p : List Int) (w : World) (hv : ItemsAt w v l) (hu : IntsAt w u p) : Calls Tryz.prog 13 #[v, u] w (Gives (.tuple #[.string (nameOfS l p), .int .i64 (nameOfCode l p)]) w) := by
  have HV := Lib.hid hv
  have HU := Lib.hid hu
  have HQ := iValidItems_c v l w hv
  have HQ2 := Lib.hid (fun W x => validPattern_c u p W x)
  have HF := Lib.hid (fun W z x y => itemWith_c v z l (canL p) W x y)
  obtain ⟨a, n, cap, rfl, hn, hl, hm, hc⟩ := hv
  have Hc := Lib.hid hc; clear hc
  obtain ⟨ua, un, uc, rfl, -⟩ := hu
  cases hE : okItems l
  · rw [hE] at HQ
    have HE := Lib.hid hE
    clear hE hn
    go_enter Tryz.func13, Tryz.ntmps13
    go_wp2_with fail
    refine HQ.mono ?_
    rintro e w1 ⟨rfl, hb1⟩
    clear HQ
    go_wp2
    go_ret2
    exact Gives.si (by unfold nameOfS; rw [HE.out]; rfl) (by unfold nameOfCode; rw [HE.out]; rfl) hb1
  · rw [hE] at HQ
    have HE := Lib.hid hE
    have Hn := Lib.hid hn
    clear hE hn
    cases hE2 : okPat p
    · rw [hE2] at HQ2
      have HE2 := Lib.hid hE2
      clear hE2
      go_enter Tryz.func13, Tryz.ntmps13
      go_wp2_with fail
      refine HQ.mono ?_
      rintro e w1 ⟨rfl, hb1⟩
      clear HQ
      go_wp2_with fail
      refine (HQ2.out w1 (HU.out.below hb1)).mono ?_
      rintro e w2 ⟨rfl, hb2⟩
      go_wp2
      go_ret2
      exact Gives.si (by unfold nameOfS; rw [HE.out, HE2.out]; rfl) (by unfold nameOfCode; rw [HE.out, HE2.out]; rfl) (bthen hb1 hb2)
    · rw [hE2] at HQ2
      have HE2 := Lib.hid hE2
      clear hE2
      rcases findI_cases (isPt (canL p)) l with hf | ⟨k, hf, hk, -, -⟩
      · have HG : Hid (nameOfK l p = -1) := Lib.hid hf
        rw [hf] at HF
        clear hf
        go_enter Tryz.func13, Tryz.ntmps13
        go_wp2_with fail
        refine HQ.mono ?_
        rintro e w1 ⟨rfl, hb1⟩
        clear HQ
        go_wp2_with fail
        refine (HQ2.out w1 (HU.out.below hb1)).mono ?_
        rintro e w2 ⟨rfl, hb2⟩
        have hb := bthen hb1 hb2
        go_wp2_with fail
        refine (canonical_c _ p w2 (HU.out.below hb) (okPat_len HE2.out).1 (okPat_len HE2.out).2).mono ?_
        rintro e w3 ⟨a3, n3, c3, rfl, o3, hb3⟩
        have hb' := bthen hb hb3
        have HC3 := Lib.hid (OwnInts.at o3); clear o3
        go_wp2_with fail
        refine (HF.out w3 _ (HV.out.below hb') HC3.out).mono ?_
        rintro e w4 ⟨rfl, hb4⟩
        go_wp2
        go_ret2
        exact Gives.si (by unfold nameOfS; rw [HE.out, HE2.out, HG.out]; rfl) (by unfold nameOfCode; rw [HE.out, HE2.out, HG.out]; rfl) (bthen hb' hb4)
      · have HG : Hid (nameOfK l p = (k : Int)) := Lib.hid hf
        rw [hf] at HF
        have hkn : k < n := by rw [Hn.out]; exact hk
        have Hk := Lib.hid hk
        clear hf hk
        go_enter Tryz.func13, Tryz.ntmps13
        go_wp2_with fail
        refine HQ.mono ?_
        rintro e w1 ⟨rfl, hb1⟩
        clear HQ
        go_wp2_with fail
        refine (HQ2.out w1 (HU.out.below hb1)).mono ?_
        rintro e w2 ⟨rfl, hb2⟩
        have hb := bthen hb1 hb2
        go_wp2_with fail
        refine (canonical_c _ p w2 (HU.out.below hb) (okPat_len HE2.out).1 (okPat_len HE2.out).2).mono ?_
        rintro e w3 ⟨a3, n3, c3, rfl, o3, hb3⟩
        have hb' := bthen hb hb3
        have HC3 := Lib.hid (OwnInts.at o3); clear o3
        go_wp2_with fail
        refine (HF.out w3 _ (HV.out.below hb') HC3.out).mono ?_
        rintro e w4 ⟨rfl, hb4⟩
        have hb5 := bthen hb' hb4
        obtain ⟨b, o, pa, pn, pc, rfl, hbs, hsz, hp, c0, c1⟩ := item_cells (Hc.out.below hb5) k Hk.out
        clear hp
        go_wp2
        go_ret2
        exact Gives.si (by unfold nameOfS; rw [HE.out, HE2.out, HG.out, Bool.and_self, if_pos rfl, if_neg (by omega), Int.toNat_natCast]) (by unfold nameOfCode; rw [HE.out, HE2.out, HG.out, Bool.and_self, if_pos rfl, if_neg (by omega)]) hb5
end Go.Proofs.YtcgbdhbdlnimhaaGreat

/- ItemNames: NamesWith, by both packages. -/
namespace Go.Proofs.YtcgbdhbdlnimhaaGreat
open Go.ChangeShapes Go.WideShapes Go.ChangeAt Go.RowKit

def GivesStrsC (l : List ByteArray) (code : Int) (w : World) (e : Ending) (w' : World) : Prop := ∃ a n c, e = .returned (.tuple #[.slice a n c, .int .i64 code]) ∧ OwnStrs w' w.heap.size (.slice a n c) l ∧ Below w.heap.size w w'
theorem GivesStrsC.none {l : List ByteArray} {c1 c2 : Int} {w w' : World} (h : l = []) (hc : c1 = c2) (hb : Below w.heap.size w w') : GivesStrsC l c1 w (.returned (.tuple #[.slice Option.none 0 0, .int .i64 c2])) w' :=
  ⟨Option.none, 0, 0, by rw [hc], by rw [h]; exact World.ownsRow_nil _ _ _ _, hb⟩
theorem GivesStrsC.mk {l : List ByteArray} {c1 c2 : Int} {a : Option Addr} {n c : Nat} {w w' : World} (hc : c1 = c2) (ho : OwnStrs w' w.heap.size (.slice a n c) l) (hb : Below w.heap.size w w') : GivesStrsC l c1 w (.returned (.tuple #[.slice a n c, .int .i64 c2])) w' :=
  ⟨a, n, c, by rw [hc], ho, hb⟩
def namesTo (l : List Item) (P : Int) (k : Nat) : List ByteArray := ((l.take k).filter fun x => propsL x.pattern == P).map Item.name
def namesWithL (l : List Item) (P : Int) : List ByteArray := if okItems l && inB P 0 15 then namesTo l P l.length else []
def namesWithCode (l : List Item) (P : Int) : Int := if okItems l then (if inB P 0 15 then 0 else 2) else 1
theorem namesTo_yes {l : List Item} {P : Int} {k : Nat} (hk : k < l.length) (h : (propsL (nth l k).pattern == P) = true) : namesTo l P (k + 1) = namesTo l P k ++ [(nth l k).name] := by
  unfold namesTo; rw [take_nth l k hk, List.filter_append, List.map_append]; simp [h]
theorem namesTo_no {l : List Item} {P : Int} {k : Nat} (hk : k < l.length) (h : (propsL (nth l k).pattern == P) = false) : namesTo l P (k + 1) = namesTo l P k := by
  unfold namesTo; rw [take_nth l k hk, List.filter_append, List.map_append]; simp [h]
theorem namesTo_len (l : List Item) (P : Int) (k : Nat) : (namesTo l P k).length ≤ k := by
  unfold namesTo
  rw [List.length_map]
  exact Nat.le_trans (List.length_filter_le _ _) (by rw [List.length_take]; omega)
theorem namesWithL_len (l : List Item) (P : Int) : (namesWithL l P).length ≤ 1099511627776 := by
  unfold namesWithL
  split
  · rename_i h
    simp only [Bool.and_eq_true] at h
    have := namesTo_len l P l.length
    have := okItems_len h.1
    omega
  · simp
set_option maxHeartbeats 2000000 in
theorem sNamesWith_c (v : Value) (l : List Item) (P : Int) (w : World) (hv : ItemsAt w v l) : Calls Tryz.prog 33 #[v, .int .i64 P] w (GivesStrsC (namesWithL l P) (namesWithCode l P) w) := by
  have HQ := l22Ok_c v l w hv
  have HF := Lib.hid (fun W => l00In_c P 0 15 W)
  obtain ⟨a, n, cap, rfl, hn, hl, hm, hc⟩ := hv
  have Hc := Lib.hid hc; clear hc
  cases hE : okItems l
  · rw [hE] at HQ
    have HE := Lib.hid hE
    clear hE hn
    go_enter Tryz.func33, Tryz.ntmps33
    go_wp2_with fail
    refine HQ.mono ?_
    rintro e w1 ⟨rfl, hb1⟩
    clear HQ
    go_wp2
    go_ret2
    exact GivesStrsC.none (by unfold namesWithL; rw [HE.out]; rfl) (by unfold namesWithCode; rw [HE.out]; rfl) hb1
  · rw [hE] at HQ
    have HE := Lib.hid hE
    have hn60 : n ≤ 60 := by rw [hn]; exact okItems_len hE
    have Hn := Lib.hid hn
    clear hE hn
    cases hI : inB P 0 15
    · rw [hI] at HF
      have HI := Lib.hid hI
      clear hI
      go_enter Tryz.func33, Tryz.ntmps33
      go_wp2_with fail
      refine HQ.mono ?_
      rintro e w1 ⟨rfl, hb1⟩
      clear HQ
      go_wp2_with fail
      refine (HF.out w1).mono ?_
      rintro e w2 ⟨rfl, hb2⟩
      go_wp2
      go_ret2
      exact GivesStrsC.none (by unfold namesWithL; rw [HE.out, HI.out]; rfl) (by unfold namesWithCode; rw [HE.out, HI.out]; rfl) (bthen hb1 hb2)
    · rw [hI] at HF
      have HI := Lib.hid hI
      clear hI
      go_enter Tryz.func33, Tryz.ntmps33
      go_wp2_with fail
      refine HQ.mono ?_
      rintro e w1 ⟨rfl, hb1⟩
      clear HQ
      go_wp2_with fail
      refine (HF.out w1).mono ?_
      rintro e w2 ⟨rfl, hb2⟩
      have hb0 := bthen hb1 hb2
      clear hb1 hb2 HF
      go_wp2
      go_loopw [6, 7] (fun s i wr => ∃ (k : Nat) (a' : Option Addr) (n' c' : Nat), i = .int .i64 k ∧ k ≤ n ∧ s = .slice a' n' c' ∧ Hid (OwnStrs wr w2.heap.size (.slice a' n' c') (namesTo l P k)) ∧ Below w2.heap.size w2 wr) (fun _ i _ => n - (intOf i).toNat)
      case atStart => exact ⟨0, _, _, _, rfl, Nat.zero_le _, rfl, Lib.hid (own_strs_empty w2), by go_grown⟩
      case round =>
        obtain ⟨k, a', n', c', rfl, hk, rfl, HO, hb⟩ := hrel
        by_cases hlt : k < n
        · have Hkl : Hid (k < l.length) := Lib.hid (by rw [← Hn.out]; exact hlt)
          have Hcb := Lib.hid (Hc.out.below (bthen hb0 hb))
          obtain ⟨b, o, pa, pn, pc, rfl, hbs, hsz, hp, c0, c1⟩ := item_cells Hcb.out k Hkl.out
          have HP := Lib.hid hp; clear hp
          have ht := okPat_throws (okItemAt_pat (okItems_at HE.out Hkl.out))
          have HQ := Lib.hid (fun W x => l02Props_c (.slice pa pn pc) (nth l k).pattern W x ht)
          have HT := Lib.hid (fun h => namesTo_yes (P := P) Hkl.out h)
          have HT' := Lib.hid (fun h => namesTo_no (P := P) Hkl.out h)
          have hlen := namesTo_len l P k
          have HC0 := Lib.hid c0
          clear ht
          generalize propsL (nth l k).pattern = Y at *
          go_wp2_with fail
          refine (HQ.out _ (HP.out.below (by first | exact Below.refl _ _ | go_grown))).mono ?_
          rintro e w3 ⟨rfl, hb3⟩
          have hb4 : Below wr.heap.size wr w3 := bthen (by first | exact Below.refl _ _ | go_grown) hb3
          have c0' := cell_then hbs HC0.out hb4
          skip
          have HO3 := Lib.hid (own_below HO.out hb4)
          have hb5 := bthen hb hb4
          clear hb3 c0 c1 HO
          have hsz5 := hb5.size
          by_cases hY : Y = P
          · have hY' : (Y == P) = true := by simpa using hY
            have HTT := Lib.hid (HT.out hY')
            clear hY
            go_wp2_with (at_builtin; refine wpList_app_strs rfl _ _ rfl w2.heap.size _ _ rfl (HO3.out.alloc _) _ _ _ [(nth l k).name] rfl rfl (strs_new _ _ _) (by simp; omega) (by simp; omega) ?_)
            intro a6 n6 c6 w6 ho6 hg6 _ _
            have hb6 : Below w2.heap.size w2 w6 := (hb5.alloc hb5.size _).grown hg6 (by simp; omega) (fun g hg => (World.ownsRow.lt HO3.out g hg).1)
            have HO6 : Hid (OwnStrs w6 w2.heap.size (.slice a6 n6 c6) (namesTo l P (k + 1))) := Lib.hid (by rw [HTT.out]; exact ho6)
            clear ho6 hg6 HO3
            go_wp2
            exact ⟨⟨k + 1, a6, n6, c6, by go_num, hlt, rfl, HO6, hb6⟩, by simp [intOf]; omega⟩
          · have hY' : (Y == P) = false := by simpa using hY
            have HTT := Lib.hid (HT'.out hY')
            clear hY
            go_wp2
            exact ⟨⟨k + 1, a', n', c', by go_num, hlt, rfl, Lib.hid (by rw [HTT.out]; exact HO3.out), hb5⟩, by simp [intOf]; omega⟩
        · obtain rfl : k = n := by omega
          have HO3 : Hid (OwnStrs wr w.heap.size (.slice a' n' c') (namesWithL l P)) := Lib.hid (by unfold namesWithL; rw [HE.out, HI.out, Bool.and_self, if_pos rfl, ← Hn.out]; exact own_mono HO.out hb0.size)
          clear HO
          go_wp2
          go_ret2
          exact GivesStrsC.mk (by unfold namesWithCode; rw [HE.out, HI.out]; rfl) HO3.out (bthen hb0 hb)
set_option maxHeartbeats 2000000 in
theorem iNamesWith_c (v : Value) (l : List Item) (P : Int) (w : World) (hv : ItemsAt w v l) : Calls Tryz.prog 32 #[v, .int .i64 P] w (GivesStrsC (namesWithL l P) (namesWithCode l P) w) := by
  have HQ := iValidItems_c v l w hv
  have HF := Lib.hid (fun W => between_c P 0 15 W)
  obtain ⟨a, n, cap, rfl, hn, hl, hm, hc⟩ := hv
  have Hc := Lib.hid hc; clear hc
  cases hE : okItems l
  · rw [hE] at HQ
    have HE := Lib.hid hE
    clear hE hn
    go_enter Tryz.func32, Tryz.ntmps32
    go_wp2_with fail
    refine HQ.mono ?_
    rintro e w1 ⟨rfl, hb1⟩
    clear HQ
    go_wp2
    go_ret2
    exact GivesStrsC.none (by unfold namesWithL; rw [HE.out]; rfl) (by unfold namesWithCode; rw [HE.out]; rfl) hb1
  · rw [hE] at HQ
    have HE := Lib.hid hE
    have hn60 : n ≤ 60 := by rw [hn]; exact okItems_len hE
    have Hn := Lib.hid hn
    clear hE hn
    cases hI : inB P 0 15
    · rw [hI] at HF
      have HI := Lib.hid hI
      clear hI
      go_enter Tryz.func32, Tryz.ntmps32
      go_wp2_with fail
      refine HQ.mono ?_
      rintro e w1 ⟨rfl, hb1⟩
      clear HQ
      go_wp2_with fail
      refine (HF.out w1).mono ?_
      rintro e w2 ⟨rfl, hb2⟩
      go_wp2
      go_ret2
      exact GivesStrsC.none (by unfold namesWithL; rw [HE.out, HI.out]; rfl) (by unfold namesWithCode; rw [HE.out, HI.out]; rfl) (bthen hb1 hb2)
    · rw [hI] at HF
      have HI := Lib.hid hI
      clear hI
      go_enter Tryz.func32, Tryz.ntmps32
      go_wp2_with fail
      refine HQ.mono ?_
      rintro e w1 ⟨rfl, hb1⟩
      clear HQ
      go_wp2_with fail
      refine (HF.out w1).mono ?_
      rintro e w2 ⟨rfl, hb2⟩
      have hb0 := bthen hb1 hb2
      clear hb1 hb2 HF
      go_wp2
      go_loopw [6, 18] (fun s i wr => ∃ (k : Nat) (a' : Option Addr) (n' c' : Nat), i = .int .i64 k ∧ k ≤ n ∧ s = .slice a' n' c' ∧ Hid (OwnStrs wr w2.heap.size (.slice a' n' c') (namesTo l P k)) ∧ Below w2.heap.size w2 wr) (fun _ i _ => n - (intOf i).toNat)
      case atStart => exact ⟨0, _, _, _, rfl, Nat.zero_le _, rfl, Lib.hid (own_strs_empty w2), by go_grown⟩
      case round =>
        obtain ⟨k, a', n', c', rfl, hk, rfl, HO, hb⟩ := hrel
        by_cases hlt : k < n
        · have Hkl : Hid (k < l.length) := Lib.hid (by rw [← Hn.out]; exact hlt)
          have Hcb := Lib.hid (Hc.out.below (bthen hb0 hb))
          obtain ⟨b, o, pa, pn, pc, rfl, hbs, hsz, hp, c0, c1⟩ := item_cells Hcb.out k Hkl.out
          have HP := Lib.hid hp; clear hp
          have ht := okPat_throws (okItemAt_pat (okItems_at HE.out Hkl.out))
          have HQ := Lib.hid (fun W x => propsOf_c (.slice pa pn pc) (nth l k).pattern W x ht)
          have HT := Lib.hid (fun h => namesTo_yes (P := P) Hkl.out h)
          have HT' := Lib.hid (fun h => namesTo_no (P := P) Hkl.out h)
          have hlen := namesTo_len l P k
          have HC0 := Lib.hid c0
          clear ht
          generalize propsL (nth l k).pattern = Y at *
          go_wp2_with fail
          refine (HQ.out _ (HP.out.below (by first | exact Below.refl _ _ | go_grown))).mono ?_
          rintro e w3 ⟨rfl, hb3⟩
          have hb4 : Below wr.heap.size wr w3 := bthen (by first | exact Below.refl _ _ | go_grown) hb3
          have c0' := cell_then hbs HC0.out hb4
          have HBx := Lib.hid ((BoxIs.new wr [.string (nth l k).name, .slice pa pn pc] 62).below hb3)
          obtain ⟨eBx, fBx⟩ := HBx.out.cells
          have HO3 := Lib.hid (own_below HO.out hb4)
          have hb5 := bthen hb hb4
          clear hb3 c0 c1 HO
          have hsz5 := hb5.size
          by_cases hY : Y = P
          · have hY' : (Y == P) = true := by simpa using hY
            have HTT := Lib.hid (HT.out hY')
            clear hY
            go_wp2_with (at_builtin; refine wpList_app_strs rfl _ _ rfl w2.heap.size _ _ rfl (HO3.out.alloc _) _ _ _ [(nth l k).name] rfl rfl (strs_new _ _ _) (by simp; omega) (by simp; omega) ?_)
            intro a6 n6 c6 w6 ho6 hg6 _ _
            have hb6 : Below w2.heap.size w2 w6 := (hb5.alloc hb5.size _).grown hg6 (by simp; omega) (fun g hg => (World.ownsRow.lt HO3.out g hg).1)
            have HO6 : Hid (OwnStrs w6 w2.heap.size (.slice a6 n6 c6) (namesTo l P (k + 1))) := Lib.hid (by rw [HTT.out]; exact ho6)
            clear ho6 hg6 HO3
            go_wp2
            exact ⟨⟨k + 1, a6, n6, c6, by go_num, hlt, rfl, HO6, hb6⟩, by simp [intOf]; omega⟩
          · have hY' : (Y == P) = false := by simpa using hY
            have HTT := Lib.hid (HT'.out hY')
            clear hY
            go_wp2
            exact ⟨⟨k + 1, a', n', c', by go_num, hlt, rfl, Lib.hid (by rw [HTT.out]; exact HO3.out), hb5⟩, by simp [intOf]; omega⟩
        · obtain rfl : k = n := by omega
          have HO3 : Hid (OwnStrs wr w.heap.size (.slice a' n' c') (namesWithL l P)) := Lib.hid (by unfold namesWithL; rw [HE.out, HI.out, Bool.and_self, if_pos rfl, ← Hn.out]; exact own_mono HO.out hb0.size)
          clear HO
          go_wp2
          go_ret2
          exact GivesStrsC.mk (by unfold namesWithCode; rw [HE.out, HI.out]; rfl) HO3.out (bthen hb0 hb)
end Go.Proofs.YtcgbdhbdlnimhaaGreat
