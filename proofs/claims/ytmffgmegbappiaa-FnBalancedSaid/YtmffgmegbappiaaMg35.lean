import Derived.Test.YtmffgmegbappiaaMg19
import Derived.Test.YtmffgmegbappiaaMg34
/- CardAdd: a plan with one card more, by both packages. -/
namespace Go.Proofs.Ytmffgmegbappiaa
open Go.ChangeShapes Go.WideShapes Go.ChangeAt Go.RowKit

theorem okCardsF_pw : ∀ (l : List Card) (p : Option Card), okCardsF p l = true → (∀ x, p = some x → ∀ c ∈ l, lessB x.name c.name = true) ∧ l.Pairwise (fun a b => lessB a.name b.name = true)
  | [], p, _ => ⟨fun _ _ _ h => absurd h List.not_mem_nil, List.Pairwise.nil⟩
  | c :: l, p, h => by
    unfold okCardsF at h
    simp only [Bool.and_eq_true] at h
    obtain ⟨⟨_, _, _, ho⟩, hr⟩ := h
    obtain ⟨i1, i2⟩ := okCardsF_pw l (some c) hr
    refine ⟨?_, List.pairwise_cons.2 ⟨fun x hx => i1 c rfl x hx, i2⟩⟩
    intro x hx y hy
    subst hx
    have ho' : lessB x.name c.name = true := ho
    rcases List.mem_cons.1 hy with rfl | hy
    · exact ho'
    · exact (swo_ltN (id : ByteArray → ByteArray)).trans _ _ _ ho' (i1 c rfl y hy)
theorem okCards_pw {l : List Card} (h : okCards l = true) : l.Pairwise (fun a b => lessB a.name b.name = true) := by
  unfold okCards at h
  rw [Bool.and_eq_true] at h
  exact (okCardsF_pw l none h.1).2
theorem lessB_asym {a b : ByteArray} (h : lessB a b = true) : lessB b a = false := swo_asym (swo_ltN (id : ByteArray → ByteArray)) h
theorem lessB_irrefl (a : ByteArray) : lessB a a = false := (swo_ltN (id : ByteArray → ByteArray)).irrefl a
theorem findF_none : ∀ (l : List Card) (s : ByteArray) (j : Nat), findF l s j = -1 → ∀ c ∈ l, c.name ≠ s
  | [], _, _, _, c, hc => absurd hc List.not_mem_nil
  | x :: l, s, j, h, c, hc => by
    unfold findF at h
    split at h
    · omega
    · rename_i hx
      rcases List.mem_cons.1 hc with rfl | hc
      · exact hx
      · exact findF_none l s (j + 1) h c hc
/-- Names that are put in order: one list alone is in order. -/
theorem names_unique {β : Type} [Inhabited β] (nm : β → ByteArray) {l l' : List β} {c : β} (hp : l'.Perm (l ++ [c])) (ha : Asc (ltN nm) l') (hl : l.Pairwise (fun a b => lessB (nm a) (nm b) = true)) (hc : ∀ x ∈ l, nm x ≠ nm c) : l' = insB (ltN nm) l c := by
  have hasc : Asc (ltN nm) l := List.Pairwise.imp (fun h => lessB_asym h) hl
  refine asc_unique ha (insB_asc (swo_ltN nm) hasc c) (hp.trans ((List.perm_append_comm).trans (insB_perm (ltN nm) l c).symm)) ?_
  have key : ∀ a ∈ l, ∀ b ∈ l, nm a = nm b → a = b := by
    intro a ha b hb hab
    obtain ⟨i, hi, rfl⟩ := List.getElem_of_mem ha
    obtain ⟨j, hj, rfl⟩ := List.getElem_of_mem hb
    rcases Nat.lt_trichotomy i j with h | h | h
    · have := (List.pairwise_iff_getElem.1 hl) i j hi hj h
      rw [hab, lessB_irrefl] at this; exact absurd this (by decide)
    · subst h; rfl
    · have := (List.pairwise_iff_getElem.1 hl) j i hj hi h
      rw [hab, lessB_irrefl] at this; exact absurd this (by decide)
  intro a ha b hb h1 h2
  have he : nm a = nm b := lessB_anti h1 h2
  have ha' := hp.mem_iff.1 ha
  have hb' := hp.mem_iff.1 hb
  simp only [List.mem_append, List.mem_singleton] at ha' hb'
  rcases ha' with ha' | rfl <;> rcases hb' with hb' | rfl
  · exact key a ha' b hb' he
  · exact absurd he (hc a ha')
  · exact absurd he.symm (hc b hb')
  · rfl
def addCode (l : List Card) (s : ByteArray) (d : Int) : Int := if okCards l = true then (if nameB (chars s) = true then (if inB d 0 100000 = true then (if findC l s = -1 then (if l.length = 40 then 5 else 0) else 4) else 2) else 7) else 1
def addL (l : List Card) (s : ByteArray) (d : Int) : List Card := if addCode l s d = 0 then insB (ltN Card.name) l ⟨s, 0, d⟩ else []
theorem addL_nil {l : List Card} {s : ByteArray} {d c : Int} (h : addCode l s d = c) (hc : c ≠ 0) : addL l s d = [] := by unfold addL; rw [h, if_neg hc]
theorem addL_len (l : List Card) (s : ByteArray) (d : Int) : (addL l s d).length ≤ 1099511627776 := by
  unfold addL
  split
  · rename_i h
    unfold addCode at h
    split at h
    · rename_i h1
      have := okCards_len h1
      rw [insB_len]; omega
    · exact absurd h (by decide)
  · exact Nat.zero_le _
theorem cadd_none (b o j : Nat) : (⟨b, o, none⟩ : Addr).add j = ⟨b, o + j, none⟩ := by
  unfold Addr.add
  split
  · rename_i h; subst h; rfl
  · rfl
theorem cards_all {w : World} {a : Option Addr} {l : List Card} {n : Nat} (h : CardsC w a l) (hn : n = l.length) : Reads w w.heap.size 3 a n (l.flatMap cardCells) := by subst hn; exact cards_reads h
theorem card_new (w : World) (s : ByteArray) (d : Int) (hs : s.size ≤ 9223372036854775807) (t : TypeId) : Reads (w.alloc (.cells #[.string s, .int .i64 0, .int .i64 d] t)) (w.alloc (.cells #[.string s, .int .i64 0, .int .i64 d] t)).heap.size 3 (some ⟨w.heap.size, 0, none⟩) 1 ([(⟨s, 0, d⟩ : Card)].flatMap cardCells) := by
  have h : CardsC (w.alloc (.cells #[.string s, .int .i64 0, .int .i64 d] t)) (some ⟨w.heap.size, 0, none⟩) [(⟨s, 0, d⟩ : Card)] := by
    intro i hi
    obtain rfl : i = 0 := by simpa using hi
    refine ⟨w.heap.size, 0, rfl, by simp, by simpa [nth] using hs, ?_, ?_, ?_⟩
    · rw [World.cell?_alloc_at _ _ _ _ rfl]; rfl
    · rw [World.cell?_alloc_at _ _ _ _ rfl]; rfl
    · rw [World.cell?_alloc_at _ _ _ _ rfl]; rfl
  exact cards_reads h

set_option maxRecDepth 100000 in
set_option maxHeartbeats 2000000 in
theorem sAddCard_c (v : Value) (l : List Card) (s : ByteArray) (d : Int) (w : World) (hv : CardsAt w v l) (hs : s.size ≤ 9223372036854775807) : Calls Try.prog 22 #[v, .string s, .int .i64 d] w (GivesCardsC (addL l s d) (addCode l s d) w) := by
  have HV := Lib.hid hv
  have hsz := cardsAt_size hv
  have K1 := Lib.hid (l25Ok_c v l w hv)
  have K2 := Lib.hid (fun W => sIsName_c s W hs)
  have K3 := Lib.hid (fun W => l25Day_c d W)
  have K4 := Lib.hid (fun W x => l25Find_c v l s W x)
  have HC : Hid (addCode l s d = if okCards l = true then (if nameB (chars s) = true then (if inB d 0 100000 = true then (if findC l s = -1 then (if l.length = 40 then 5 else 0) else 4) else 2) else 7) else 1) := Lib.hid rfl
  have HPW : Hid (okCards l = true → l.Pairwise (fun a b => lessB a.name b.name = true) ∧ l.length ≤ 40) := Lib.hid (fun h => ⟨okCards_pw h, okCards_len h⟩)
  obtain ⟨a, n, cap, rfl, hn, hl, hm, hc⟩ := hv
  have Hc := Lib.hid hc; clear hc
  have Hs := Lib.hid hsz; clear hsz
  have Hn := Lib.hid hn; clear hn
  generalize okCards l = b1 at *
  generalize nameB (chars s) = b2 at *
  generalize inB d 0 100000 = b3 at *
  go_enter Try.func22, Try.ntmps22
  go_wp2_with fail
  refine K1.out.mono ?_
  rintro e w1 ⟨rfl, hb1⟩
  clear K1
  cases b1
  · have HC1 : Hid (addCode l s d = 1) := Lib.hid HC.out
    clear HC K2 K3 K4
    go_wp2
    go_ret2
    exact GivesCardsC.none (addL_nil HC1.out (by decide)) HC1.out hb1
  have HP := Lib.hid (HPW.out rfl)
  have hn40 : n ≤ 40 := by rw [Hn.out]; exact HP.out.2
  clear HPW
  go_wp2_with fail
  refine (K2.out _).mono ?_
  rintro e w2 ⟨rfl, hb2⟩
  clear K2
  have hb := bthen hb1 hb2
  clear hb1 hb2
  cases b2
  · have HC1 : Hid (addCode l s d = 7) := Lib.hid HC.out
    clear HC K3 K4
    go_wp2
    go_ret2
    exact GivesCardsC.none (addL_nil HC1.out (by decide)) HC1.out hb
  go_wp2_with fail
  refine (K3.out _).mono ?_
  rintro e w3 ⟨rfl, hb3⟩
  clear K3
  have hb' := bthen hb hb3
  clear hb hb3
  cases b3
  · have HC1 : Hid (addCode l s d = 2) := Lib.hid HC.out
    clear HC K4
    go_wp2
    go_ret2
    exact GivesCardsC.none (addL_nil HC1.out (by decide)) HC1.out hb'
  go_wp2_with fail
  refine (K4.out _ (HV.out.below hb')).mono ?_
  rintro e w4 ⟨rfl, hb4⟩
  clear K4
  have hb := bthen hb' hb4
  clear hb' hb4
  rcases findC_cases l s with hf | ⟨kf, hf, hkf, -⟩
  rotate_left
  · have HC1 : Hid (addCode l s d = 4) := Lib.hid (by rw [HC.out, if_pos trivial, if_pos trivial, if_pos trivial, if_neg (by rw [hf]; omega)])
    rw [hf]
    have hge : decide ((kf : Int) ≥ 0) = true := decide_eq_true (by omega)
    clear HC hf hkf
    go_wp2
    go_ret2
    exact GivesCardsC.none (addL_nil HC1.out (by decide)) HC1.out hb
  have HF := Lib.hid (findF_none l s 0 hf)
  have HC2 : Hid (addCode l s d = if l.length = 40 then 5 else 0) := Lib.hid (by rw [HC.out, if_pos trivial, if_pos trivial, if_pos trivial, if_pos hf])
  rw [hf]
  clear HC hf
  by_cases h40 : n = 40
  · subst h40
    have HC1 : Hid (addCode l s d = 5) := Lib.hid (by rw [HC2.out, if_pos Hn.out.symm])
    clear HC2
    go_wp2
    go_ret2
    exact GivesCardsC.none (addL_nil HC1.out (by decide)) HC1.out hb
  have HC1 : Hid (addCode l s d = 0) := Lib.hid (by rw [HC2.out, if_neg (by rw [← Hn.out]; exact h40)])
  have HA : Hid (addL l s d = insB (ltN Card.name) l ⟨s, 0, d⟩) := Lib.hid (by unfold addL; rw [if_pos HC1.out])
  have h40' : n < 40 := by omega
  clear HC2 h40
  have hlt40 : decide ((n : Int) ≥ 40) = false := decide_eq_false (by omega)
  go_wp2
  go_loopw [8] (fun kk wr => ∃ p : Nat, kk = .int .i64 p ∧ p ≤ n ∧ Hid (posB (ltN Card.name) l ⟨s, 0, d⟩ l.length = posB (ltN Card.name) l ⟨s, 0, d⟩ p) ∧ Below w4.heap.size w4 wr) (fun kk _ => (intOf kk).toNat)
  case atStart => exact ⟨n, rfl, Nat.le_refl _, Lib.hid (by rw [← Hn.out]), Below.refl _ _⟩
  case round =>
    obtain ⟨p, rfl, hp, HPo, hbr⟩ := hrel
    have OUT : Hid (p = posB (ltN Card.name) l ⟨s, 0, d⟩ l.length → l.take p ++ ⟨s, 0, d⟩ :: l.drop p = insB (ltN Card.name) l ⟨s, 0, d⟩) := Lib.hid (fun h => by unfold insB; rw [← h])
    by_cases hp0 : p = 0
    · subst hp0
      have HE : Hid (l.take 0 ++ [⟨s, 0, d⟩] ++ l = insB (ltN Card.name) l ⟨s, 0, d⟩) := Lib.hid (by rw [← OUT.out (by rw [HPo.out]; rfl)]; rfl)
      clear OUT HPo
      go_wp2_with (at_builtin; refine wpList_app_cards rfl _ _ rfl wr.heap.size _ _ rfl (own_cards_empty wr) _ _ _ (l.take 0) rfl (by rw [List.length_take, ← Hn.out]; omega) (cards_front (Hc.out.below ((bthen hb hbr).alloc (by have := (bthen hb hbr).size; omega) _)) Hn.out (by omega)) (size_take Hs.out _) (by rw [List.length_take, List.length_nil]; omega) (by simp) ?_)
      intro a5 n5 c5 w5 ho5 hg5 _ hn5
      clear hn5
      have hb5 : Below wr.heap.size wr w5 := ((Below.refl _ _).alloc (Nat.le_refl _) _).grown hg5 (by simp) (fun g hg => by simp [Value.ownBlock] at hg; omega)
      have HO5 := Lib.hid ho5
      clear ho5 hg5
      have hs5 := hb5.size
      go_wp2_with (at_builtin; refine wpList_app_cards rfl _ _ rfl wr.heap.size _ _ rfl (HO5.out.alloc _) _ _ _ [(⟨s, 0, d⟩ : Card)] rfl rfl (card_new _ s d hs _) (fun c hc => by simp at hc; subst hc; exact hs) (by have := Hn.out; simp <;> omega) (by simp; omega) ?_)
      intro a6 n6 c6 w6 ho6 hg6 _ hn6
      clear hn6
      have hb6 : Below wr.heap.size wr w6 := (hb5.alloc (by omega) _).grown hg6 (by simp; omega) (fun g hg => (World.ownsRow.lt HO5.out.1 g hg).1)
      have HO6 := Lib.hid ho6
      clear ho6 hg6
      go_wp2_with (at_builtin; refine wpList_app_cards rfl _ _ rfl wr.heap.size _ _ rfl HO6.out _ _ _ (l) rfl (by exact Hn.out) (cards_all (Hc.out.below (bthen (bthen hb hbr) hb6)) Hn.out) (Hs.out) (by have := Hn.out; simp <;> omega) hb6.size ?_)
      intro a7 n7 c7 w7 ho7 hg7 _ hn7
      clear hn7
      have hb7 : Below wr.heap.size wr w7 := hb6.grown hg7 hb6.size (fun g hg => (World.ownsRow.lt HO6.out.1 g hg).1)
      have hbw := bthen hb hbr
      have hsw := hbw.size
      have HO7 : Hid (OwnCards w7 w.heap.size (.slice a7 n7 c7) (insB (ltN Card.name) l ⟨s, 0, d⟩)) := Lib.hid (cast (congrArg (fun L => OwnCards w7 w.heap.size (.slice a7 n7 c7) L) (by simpa using HE.out)) (OwnCards.mono ho7 (by omega)))
      have HO8 : Hid (OwnCards w7 w.heap.size (.slice a7 n7 c7) (addL l s d)) := Lib.hid (by rw [HA.out]; exact HO7.out)
      clear ho7 hg7 HO6 HO5 HO7
      go_wp2
      go_ret2
      exact GivesCardsC.mk HC1.out HO8.out (bthen hbw hb7)
    · obtain ⟨b5, o5, rfl, hb5, -, f0, -⟩ := (Hc.out.below (bthen hb hbr)) (p - 1) (by rw [← Hn.out]; omega)
      have hps : posB (ltN Card.name) l ⟨s, 0, d⟩ p = if lessB s (nth l (p - 1)).name = true then posB (ltN Card.name) l ⟨s, 0, d⟩ (p - 1) else p := by
        obtain ⟨q, rfl⟩ : ∃ q, p = q + 1 := ⟨p - 1, by omega⟩
        rfl
      have hg := lessB_leq (nth l (p - 1)).name s
      generalize (nth l (p - 1)).name = y at *
      cases hxy : lessB s y
      · have HP2 : Hid (posB (ltN Card.name) l ⟨s, 0, d⟩ l.length = p) := Lib.hid (by rw [HPo.out, hps, if_neg (by rw [hxy]; decide)])
        rw [hxy] at hg
        have HE : Hid (l.take p ++ [⟨s, 0, d⟩] ++ l.drop p = insB (ltN Card.name) l ⟨s, 0, d⟩) := Lib.hid (by rw [← OUT.out HP2.out.symm]; simp)
        clear hps HPo hxy OUT HP2
        by_cases hcp : cap = p
        · obtain rfl : n = p := by omega
          have hcp2 := hcp.symm
          subst hcp2
          have HE : Hid (l.take n ++ [⟨s, 0, d⟩] ++ ([] : List Card) = insB (ltN Card.name) l ⟨s, 0, d⟩) := Lib.hid (by rw [← HE.out, List.drop_eq_nil_of_le (by rw [← Hn.out]; exact Nat.le_refl _)])
          go_wp2_with (at_builtin; refine wpList_app_cards rfl _ _ rfl wr.heap.size _ _ rfl (own_cards_empty wr) _ _ _ (l.take n) rfl (by rw [List.length_take, ← Hn.out]; omega) (cards_front (Hc.out.below ((bthen hb hbr).alloc (by have := (bthen hb hbr).size; omega) _)) Hn.out (by omega)) (size_take Hs.out _) (by rw [List.length_take, List.length_nil]; omega) (by simp) ?_)
          intro a5 n5 c5 w5 ho5 hg5 _ hn5
          clear hn5
          have hb5 : Below wr.heap.size wr w5 := ((Below.refl _ _).alloc (Nat.le_refl _) _).grown hg5 (by simp) (fun g hg => by simp [Value.ownBlock] at hg; omega)
          have HO5 := Lib.hid ho5
          clear ho5 hg5
          have hs5 := hb5.size
          go_wp2_with (at_builtin; refine wpList_app_cards rfl _ _ rfl wr.heap.size _ _ rfl (HO5.out.alloc _) _ _ _ [(⟨s, 0, d⟩ : Card)] rfl rfl (card_new _ s d hs _) (fun c hc => by simp at hc; subst hc; exact hs) (by have := Hn.out; simp <;> omega) (by simp; omega) ?_)
          intro a6 n6 c6 w6 ho6 hg6 _ hn6
          clear hn6
          have hb6 : Below wr.heap.size wr w6 := (hb5.alloc (by omega) _).grown hg6 (by simp; omega) (fun g hg => (World.ownsRow.lt HO5.out.1 g hg).1)
          have HO6 := Lib.hid ho6
          clear ho6 hg6
          go_wp2_with (at_builtin; refine wpList_app_cards rfl _ _ rfl wr.heap.size _ _ rfl HO6.out _ _ _ (([] : List Card)) rfl (by simp) (cards_none _ _) (fun _ h => absurd h List.not_mem_nil) (by have := Hn.out; simp <;> omega) hb6.size ?_)
          intro a7 n7 c7 w7 ho7 hg7 _ hn7
          clear hn7
          have hb7 : Below wr.heap.size wr w7 := hb6.grown hg7 hb6.size (fun g hg => (World.ownsRow.lt HO6.out.1 g hg).1)
          have hbw := bthen hb hbr
          have hsw := hbw.size
          have HO7 : Hid (OwnCards w7 w.heap.size (.slice a7 n7 c7) (insB (ltN Card.name) l ⟨s, 0, d⟩)) := Lib.hid (cast (congrArg (fun L => OwnCards w7 w.heap.size (.slice a7 n7 c7) L) (by simpa using HE.out)) (OwnCards.mono ho7 (by omega)))
          have HO8 : Hid (OwnCards w7 w.heap.size (.slice a7 n7 c7) (addL l s d)) := Lib.hid (by rw [HA.out]; exact HO7.out)
          clear ho7 hg7 HO6 HO5 HO7
          go_wp2
          go_ret2
          exact GivesCardsC.mk HC1.out HO8.out (bthen hbw hb7)
        · skip
          go_wp2_with (at_builtin; refine wpList_app_cards rfl _ _ rfl wr.heap.size _ _ rfl (own_cards_empty wr) _ _ _ (l.take p) rfl (by rw [List.length_take, ← Hn.out]; omega) (cards_front (Hc.out.below ((bthen hb hbr).alloc (by have := (bthen hb hbr).size; omega) _)) Hn.out (by omega)) (size_take Hs.out _) (by rw [List.length_take, List.length_nil]; omega) (by simp) ?_)
          intro a5 n5 c5 w5 ho5 hg5 _ hn5
          clear hn5
          have hb5 : Below wr.heap.size wr w5 := ((Below.refl _ _).alloc (Nat.le_refl _) _).grown hg5 (by simp) (fun g hg => by simp [Value.ownBlock] at hg; omega)
          have HO5 := Lib.hid ho5
          clear ho5 hg5
          have hs5 := hb5.size
          go_wp2_with (at_builtin; refine wpList_app_cards rfl _ _ rfl wr.heap.size _ _ rfl (HO5.out.alloc _) _ _ _ [(⟨s, 0, d⟩ : Card)] rfl rfl (card_new _ s d hs _) (fun c hc => by simp at hc; subst hc; exact hs) (by have := Hn.out; simp <;> omega) (by simp; omega) ?_)
          intro a6 n6 c6 w6 ho6 hg6 _ hn6
          clear hn6
          have hb6 : Below wr.heap.size wr w6 := (hb5.alloc (by omega) _).grown hg6 (by simp; omega) (fun g hg => (World.ownsRow.lt HO5.out.1 g hg).1)
          have HO6 := Lib.hid ho6
          clear ho6 hg6
          go_wp2_with (at_builtin; refine wpList_app_cards rfl _ _ rfl wr.heap.size _ _ rfl HO6.out _ _ _ (l.drop p) rfl (by rw [List.length_drop, ← Hn.out]) (by have h := cards_back (Hc.out.below (bthen (bthen hb hbr) hb6)) Hn.out hp hl hcp; rw [Option.map_some, cadd_none] at h; exact h) (size_drop Hs.out _) (by have := Hn.out; simp <;> omega) hb6.size ?_)
          intro a7 n7 c7 w7 ho7 hg7 _ hn7
          clear hn7
          have hb7 : Below wr.heap.size wr w7 := hb6.grown hg7 hb6.size (fun g hg => (World.ownsRow.lt HO6.out.1 g hg).1)
          have hbw := bthen hb hbr
          have hsw := hbw.size
          have HO7 : Hid (OwnCards w7 w.heap.size (.slice a7 n7 c7) (insB (ltN Card.name) l ⟨s, 0, d⟩)) := Lib.hid (cast (congrArg (fun L => OwnCards w7 w.heap.size (.slice a7 n7 c7) L) (by simpa using HE.out)) (OwnCards.mono ho7 (by omega)))
          have HO8 : Hid (OwnCards w7 w.heap.size (.slice a7 n7 c7) (addL l s d)) := Lib.hid (by rw [HA.out]; exact HO7.out)
          clear ho7 hg7 HO6 HO5 HO7
          go_wp2
          go_ret2
          exact GivesCardsC.mk HC1.out HO8.out (bthen hbw hb7)
      · have HP2 : Hid (posB (ltN Card.name) l ⟨s, 0, d⟩ l.length = posB (ltN Card.name) l ⟨s, 0, d⟩ (p - 1)) := Lib.hid (by rw [HPo.out, hps, if_pos hxy])
        rw [hxy] at hg
        clear hps HPo hxy OUT
        go_wp2
        exact ⟨⟨p - 1, by go_num, by omega, HP2, hbr⟩, by simp [intOf]; omega⟩
set_option maxHeartbeats 1000000 in
theorem addLess : LessN 54 3 := by
  intro blk c B size W G hs hc i j hi hj
  have ci := hc i hi
  have cj := hc j hj
  clear hc
  go_enter Try.func54, Try.ntmps54
  go_wp2
  go_quiet (fail)
  go_wp2
  go_ret
  exact ⟨rfl, nq, rfl⟩
set_option maxRecDepth 100000 in
set_option maxHeartbeats 2000000 in
theorem iAddCard_c (v : Value) (l : List Card) (s : ByteArray) (d : Int) (w : World) (hv : CardsAt w v l) (hs : s.size ≤ 9223372036854775807) : Calls Try.prog 21 #[v, .string s, .int .i64 d] w (GivesCardsC (addL l s d) (addCode l s d) w) := by
  have HV := Lib.hid hv
  have hsz := cardsAt_size hv
  have K1 := Lib.hid (iValidCards_c v l w hv)
  have K2 := Lib.hid (fun W => iIsName_c s W hs)
  have K3 := Lib.hid (fun W => isDay_c d W)
  have K4 := Lib.hid (fun W x => cardNamed_c v l s W x)
  have HC : Hid (addCode l s d = if okCards l = true then (if nameB (chars s) = true then (if inB d 0 100000 = true then (if findC l s = -1 then (if l.length = 40 then 5 else 0) else 4) else 2) else 7) else 1) := Lib.hid rfl
  have HPW : Hid (okCards l = true → l.Pairwise (fun a b => lessB a.name b.name = true) ∧ l.length ≤ 40) := Lib.hid (fun h => ⟨okCards_pw h, okCards_len h⟩)
  obtain ⟨a, n, cap, rfl, hn, hl, hm, hc⟩ := hv
  have Hc := Lib.hid hc; clear hc
  have Hs := Lib.hid hsz; clear hsz
  have Hn := Lib.hid hn; clear hn
  generalize okCards l = b1 at *
  generalize nameB (chars s) = b2 at *
  generalize inB d 0 100000 = b3 at *
  go_enter Try.func21, Try.ntmps21
  go_wp2_with fail
  refine K1.out.mono ?_
  rintro e w1 ⟨rfl, hb1⟩
  clear K1
  cases b1
  · have HC1 : Hid (addCode l s d = 1) := Lib.hid HC.out
    clear HC K2 K3 K4
    go_wp2
    go_ret2
    exact GivesCardsC.none (addL_nil HC1.out (by decide)) HC1.out hb1
  have HP := Lib.hid (HPW.out rfl)
  have hn40 : n ≤ 40 := by rw [Hn.out]; exact HP.out.2
  clear HPW
  go_wp2_with fail
  refine (K2.out _).mono ?_
  rintro e w2 ⟨rfl, hb2⟩
  clear K2
  have hb := bthen hb1 hb2
  clear hb1 hb2
  cases b2
  · have HC1 : Hid (addCode l s d = 7) := Lib.hid HC.out
    clear HC K3 K4
    go_wp2
    go_ret2
    exact GivesCardsC.none (addL_nil HC1.out (by decide)) HC1.out hb
  go_wp2_with fail
  refine (K3.out _).mono ?_
  rintro e w3 ⟨rfl, hb3⟩
  clear K3
  have hb' := bthen hb hb3
  clear hb hb3
  cases b3
  · have HC1 : Hid (addCode l s d = 2) := Lib.hid HC.out
    clear HC K4
    go_wp2
    go_ret2
    exact GivesCardsC.none (addL_nil HC1.out (by decide)) HC1.out hb'
  go_wp2_with fail
  refine (K4.out _ (HV.out.below hb')).mono ?_
  rintro e w4 ⟨rfl, hb4⟩
  clear K4
  have hb := bthen hb' hb4
  clear hb' hb4
  rcases findC_cases l s with hf | ⟨kf, hf, hkf, -⟩
  rotate_left
  · have HC1 : Hid (addCode l s d = 4) := Lib.hid (by rw [HC.out, if_pos trivial, if_pos trivial, if_pos trivial, if_neg (by rw [hf]; omega)])
    rw [hf]
    have hge : decide ((kf : Int) ≥ 0) = true := decide_eq_true (by omega)
    clear HC hf hkf
    go_wp2
    go_ret2
    exact GivesCardsC.none (addL_nil HC1.out (by decide)) HC1.out hb
  have HF := Lib.hid (findF_none l s 0 hf)
  have HC2 : Hid (addCode l s d = if l.length = 40 then 5 else 0) := Lib.hid (by rw [HC.out, if_pos trivial, if_pos trivial, if_pos trivial, if_pos hf])
  rw [hf]
  clear HC hf
  by_cases h40 : n = 40
  · subst h40
    have HC1 : Hid (addCode l s d = 5) := Lib.hid (by rw [HC2.out, if_pos Hn.out.symm])
    clear HC2
    go_wp2
    go_ret2
    exact GivesCardsC.none (addL_nil HC1.out (by decide)) HC1.out hb
  have HC1 : Hid (addCode l s d = 0) := Lib.hid (by rw [HC2.out, if_neg (by rw [← Hn.out]; exact h40)])
  have HA : Hid (addL l s d = insB (ltN Card.name) l ⟨s, 0, d⟩) := Lib.hid (by unfold addL; rw [if_pos HC1.out])
  have h40' : n < 40 := by omega
  clear HC2 h40
  have hlt40 : ((n : Int) == 40) = false := beq_eq_false_iff_ne.2 (by omega)
  go_wp2_with (at_builtin; refine wpList_app_cards rfl _ _ rfl w4.heap.size _ _ rfl (own_cards_empty w4) _ _ _ l rfl (by exact Hn.out) (cards_all (Hc.out.below (hb.alloc (by have := hb.size; omega) _)) Hn.out) Hs.out (by rw [List.length_nil, ← Hn.out]; omega) (by simp) ?_)
  intro a5 n5 c5 w5 ho5 hg5 _ hn5
  clear hn5
  have hb5 : Below w4.heap.size w4 w5 := ((Below.refl _ _).alloc (Nat.le_refl _) _).grown hg5 (by simp) (fun g hg => by simp [Value.ownBlock] at hg; omega)
  have HO5 := Lib.hid ho5
  clear ho5 hg5
  have hs5 := hb5.size
  go_wp2_with (at_builtin; refine wpList_app_cards rfl _ _ rfl w4.heap.size _ _ rfl (HO5.out.alloc _) _ _ _ [(⟨s, 0, d⟩ : Card)] rfl rfl (card_new _ s d hs _) (fun c hc => by simp at hc; subst hc; exact hs) (by have := Hn.out; simp <;> omega) (by simp; omega) ?_)
  intro a6 n6 c6 w6 ho6 hg6 _ hn6
  have hb6 : Below w4.heap.size w4 w6 := (hb5.alloc (by omega) _).grown hg6 (by simp; omega) (fun g hg => (World.ownsRow.lt HO5.out.1 g hg).1)
  have HO6 : Hid (OwnCards w6 w4.heap.size (.slice a6 n6 c6) (l ++ [(⟨s, 0, d⟩ : Card)])) := Lib.hid (cast (congrArg (fun L => OwnCards w6 w4.heap.size (.slice a6 n6 c6) L) (by simp)) ho6)
  have hn7 : n6 = (l ++ [(⟨s, 0, d⟩ : Card)]).length := by
    obtain ⟨_, _, e⟩ := slice_of_own HO6.out.1
    injection e
  have hB : BoxIs (w6.alloc (.cells #[.slice a6 n6 c6] 24)) w6.heap.size [.slice a6 n6 c6] := BoxIs.new w6 [.slice a6 n6 c6] 24
  have HS := Lib.hid (sortCards_c cardCells cardCells_len (fun x v hv => cards_one [x] v (by simpa using hv)) Card.name (fun _ => rfl) 54 (enters_of Try.func54 (by kernel_rfl) rfl) addLess a6 n6 c6 w6.heap.size w4.heap.size _ _ (by rw [hn7] at HO6 ⊢; exact (HO6.out.alloc _).1) hn7 hB (fun x hx => by
    subst hx; have := (World.ownsRow.lt HO6.out.1 x.block rfl).2; omega) (by have := Hn.out; simp; omega))
  have hs6 := hb6.size
  clear ho6 hg6 hn6 hn7 hB HO5
  go_wp2_with fail
  refine HS.out.mono ?_
  rintro e w7 ⟨rfl, l', p1, p2, o2, hB2, hb2, -, -⟩
  have hb7 : Below w4.heap.size w4 w7 := (hb6.alloc (by omega) _).trans (hb2 _ (Nat.le_refl _) (by simp; omega))
  have he := names_unique Card.name p1 p2 HP.out.1 (fun x hx => HF.out x hx)
  have hln : n6 = l'.length := by rw [p1.length_eq]; obtain ⟨_, _, e⟩ := slice_of_own HO6.out.1; injection e
  have HO8 : Hid (OwnCards w7 w.heap.size (.slice a6 n6 c6) (addL l s d)) := Lib.hid (by
    rw [HA.out, ← he]
    refine ⟨own_mono' (by rw [hln] at o2; rw [hln]; exact o2) hb.size, fun c hc => ?_⟩
    exact HO6.out.2 c (p1.mem_iff.1 hc))
  have hbx := hB2.2.1 0
  clear p1 p2 o2 hb2 HS he hln hB2
  go_wp2
  go_ret2
  exact GivesCardsC.mk HC1.out HO8.out (bthen hb hb7)
end Go.Proofs.Ytmffgmegbappiaa
