import Derived.Test.YtclffohjpbmnbaaDoorMg15
import Derived.Test.YtclffohjpbmnbaaDoorMg48
/- CardAdd: a plan with one card more, by both packages. -/
namespace Go.Proofs.YtclffohjpbmnbaaDoor
open Go.ChangeShapes Go.WideShapes Go.ChangeAt Go.RowKit

theorem okCardsF_pw : ∀ (l : List Card) (p : Option Card), okCardsF p l = true → (∀ x, p = some x → ∀ c ∈ l, lessB x.name c.name = true) ∧ l.Pairwise (fun a b => lessB a.name b.name = true)
  | [], p, _ => ⟨fun _ _ _ h => absurd h List.not_mem_nil, List.Pairwise.nil⟩
  | c :: l, p, h => by
    unfold okCardsF at h
    simp only [Bool.and_eq_true] at h
    obtain ⟨⟨_, _, _, ho⟩, hr⟩ := h
    obtain ⟨i1, i2⟩ := okCardsF_pw l (some c) hr
    refine ⟨?_, List.pairwise_cons.2 ⟨fun x hx => i1 c rfl x hx, i2⟩⟩
    intro x hx y hy
    subst hx
    have ho' : lessB x.name c.name = true := ho
    rcases List.mem_cons.1 hy with rfl | hy
    · exact ho'
    · exact (swo_ltN (id : ByteArray → ByteArray)).trans _ _ _ ho' (i1 c rfl y hy)
theorem okCards_pw {l : List Card} (h : okCards l = true) : l.Pairwise (fun a b => lessB a.name b.name = true) := by
  unfold okCards at h
  rw [Bool.and_eq_true] at h
  exact (okCardsF_pw l none h.1).2
theorem lessB_asym {a b : ByteArray} (h : lessB a b = true) : lessB b a = false := swo_asym (swo_ltN (id : ByteArray → ByteArray)) h
theorem lessB_irrefl (a : ByteArray) : lessB a a = false := (swo_ltN (id : ByteArray → ByteArray)).irrefl a
theorem findF_none : ∀ (l : List Card) (s : ByteArray) (j : Nat), findF l s j = -1 → ∀ c ∈ l, c.name ≠ s
  | [], _, _, _, c, hc => absurd hc List.not_mem_nil
  | x :: l, s, j, h, c, hc => by
    unfold findF at h
    split at h
    · omega
    · rename_i hx
      rcases List.mem_cons.1 hc with rfl | hc
      · exact hx
      · exact findF_none l s (j + 1) h c hc
/-- Names that are put in order: one list alone is in order. -/
theorem names_unique {β : Type} [Inhabited β] (nm : β → ByteArray) {l l' : List β} {c : β} (hp : l'.Perm (l ++ [c])) (ha : Asc (ltN nm) l') (hl : l.Pairwise (fun a b => lessB (nm a) (nm b) = true)) (hc : ∀ x ∈ l, nm x ≠ nm c) : l' = insB (ltN nm) l c := by
  have hasc : Asc (ltN nm) l := List.Pairwise.imp (fun h => lessB_asym h) hl
  refine asc_unique ha (insB_asc (swo_ltN nm) hasc c) (hp.trans ((List.perm_append_comm).trans (insB_perm (ltN nm) l c).symm)) ?_
  have key : ∀ a ∈ l, ∀ b ∈ l, nm a = nm b → a = b := by
    intro a ha b hb hab
    obtain ⟨i, hi, rfl⟩ := List.getElem_of_mem ha
    obtain ⟨j, hj, rfl⟩ := List.getElem_of_mem hb
    rcases Nat.lt_trichotomy i j with h | h | h
    · have := (List.pairwise_iff_getElem.1 hl) i j hi hj h
      rw [hab, lessB_irrefl] at this; exact absurd this (by decide)
    · subst h; rfl
    · have := (List.pairwise_iff_getElem.1 hl) j i hj hi h
      rw [hab, lessB_irrefl] at this; exact absurd this (by decide)
  intro a ha b hb h1 h2
  have he : nm a = nm b := lessB_anti h1 h2
  have ha' := hp.mem_iff.1 ha
  have hb' := hp.mem_iff.1 hb
  simp only [List.mem_append, List.mem_singleton] at ha' hb'
  rcases ha' with ha' | rfl <;> rcases hb' with hb' | rfl
  · exact key a ha' b hb' he
  · exact absurd he (hc a ha')
  · exact absurd he.symm (hc b hb')
  · rfl
def addCode (l : List Card) (s : ByteArray) (d : Int) : Int := if okCards l = true then (if nameB (chars s) = true then (if inB d 0 100000 = true then (if findC l s = -1 then (if l.length = 40 then 5 else 0) else 4) else 2) else 7) else 1
def addL (l : List Card) (s : ByteArray) (d : Int) : List Card := if addCode l s d = 0 then insB (ltN Card.name) l ⟨s, 0, d⟩ else []
theorem addL_nil {l : List Card} {s : ByteArray} {d c : Int} (h : addCode l s d = c) (hc : c ≠ 0) : addL l s d = [] := by unfold addL; rw [h, if_neg hc]
theorem addL_len (l : List Card) (s : ByteArray) (d : Int) : (addL l s d).length ≤ 1099511627776 := by
  unfold addL
  split
  · rename_i h
    unfold addCode at h
    split at h
    · rename_i h1
      have := okCards_len h1
      rw [insB_len]; omega
    · exact absurd h (by decide)
  · exact Nat.zero_le _
theorem cadd_none (b o j : Nat) : (⟨b, o, none⟩ : Addr).add j = ⟨b, o + j, none⟩ := by
  unfold Addr.add
  split
  · rename_i h; subst h; rfl
  · rfl
theorem cards_all {w : World} {a : Option Addr} {l : List Card} {n : Nat} (h : CardsC w a l) (hn : n = l.length) : Reads w w.heap.size 3 a n (l.flatMap cardCells) := by subst hn; exact cards_reads h
theorem card_new (w : World) (s : ByteArray) (d : Int) (hs : s.size ≤ 9223372036854775807) (t : TypeId) : Reads (w.alloc (.cells #[.string s, .int .i64 0, .int .i64 d] t)) (w.alloc (.cells #[.string s, .int .i64 0, .int .i64 d] t)).heap.size 3 (some ⟨w.heap.size, 0, none⟩) 1 ([(⟨s, 0, d⟩ : Card)].flatMap cardCells) := by
  have h : CardsC (w.alloc (.cells #[.string s, .int .i64 0, .int .i64 d] t)) (some ⟨w.heap.size, 0, none⟩) [(⟨s, 0, d⟩ : Card)] := by
    intro i hi
    obtain rfl : i = 0 := by simpa using hi
    refine ⟨w.heap.size, 0, rfl, by simp, by simpa [nth] using hs, ?_, ?_, ?_⟩
    · rw [World.cell?_alloc_at _ _ _ _ rfl]; rfl
    · rw [World.cell?_alloc_at _ _ _ _ rfl]; rfl
    · rw [World.cell?_alloc_at _ _ _ _ rfl]; rfl
  exact cards_reads h

end Go.Proofs.YtclffohjpbmnbaaDoor
