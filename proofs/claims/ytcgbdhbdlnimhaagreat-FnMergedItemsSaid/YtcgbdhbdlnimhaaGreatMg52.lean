import Derived.Test.YtcgbdhbdlnimhaaGreatMg51
import Derived.Test.YtcgbdhbdlnimhaaGreatMg34
import Derived.Test.YtcgbdhbdlnimhaaGreatMg48
/- ItemRt: plain: a library is read back from its text. -/
namespace Go.Proofs.YtcgbdhbdlnimhaaGreat
open Go.ChangeShapes Go.WideShapes Go.ChangeAt Go.RowKit

def itemBody (x : Item) : List Int := chars x.name ++ 32 :: x.pattern.map hexV
theorem itemBody_line (x : Item) : itemLine x = itemBody x ++ [10] := by unfold itemLine itemBody; simp
theorem findL_app (c : Int) : ∀ (p q : List Int), (∀ x ∈ p, x ≠ c) → findL c (p ++ c :: q) = p.length
  | [], q, _ => findL_eq c q
  | x :: p, q, h => by
    rw [List.cons_append, findL_neq (h x (List.mem_cons_self ..)), findL_app c p q (fun y hy => h y (List.mem_cons_of_mem _ hy))]; rfl
theorem itemBody_ok {x : Item} (hn : nameB (chars x.name) = true) (hp : okPat x.pattern = true) :
    lineOk (itemBody x) = true ∧ lineItem (itemBody x) = x ∧ ∀ y ∈ itemBody x, y ≠ 10 := by
  have hm := hexs_mem (okPat_mem hp)
  have hb := hexs_back (okPat_mem hp)
  have hN := nameB_mem hn
  have hf : findL 32 (itemBody x) = (chars x.name).length := findL_app 32 _ _ (fun y hy => (hN y hy).1)
  have hd : (itemBody x).drop ((chars x.name).length + 1) = x.pattern.map hexV := by
    unfold itemBody
    rw [List.drop_append, List.drop_eq_nil_of_le (by omega), Nat.add_sub_cancel_left]; rfl
  have ht : (itemBody x).take (chars x.name).length = chars x.name := by unfold itemBody; rw [List.take_left']; rfl
  refine ⟨?_, ?_, ?_⟩
  · unfold lineOk
    rw [hf, hd, hb, hp, decide_eq_true (by unfold itemBody; simp)]; rfl
  · unfold lineItem
    rw [hf, hd, hb, ht, strOf_chars]
  · intro y hy
    unfold itemBody at hy
    rcases List.mem_append.1 hy with hy | hy
    · exact (hN y hy).2
    · rcases List.mem_cons.1 hy with rfl | hy
      · omega
      · exact (hm y hy).2
theorem items_rt {l : List Item} (h : okItems l = true) : readOk (itemsCh l) = true ∧ readL (itemsCh l) = l := by
  have hall : ∀ x ∈ l, nameB (chars x.name) = true ∧ okPat x.pattern = true := by
    intro x hx
    obtain ⟨i, hi, rfl⟩ := List.getElem_of_mem hx
    rw [← nth_eq l i hi]
    exact ⟨okItemAt_name (okItems_at h hi), okItemAt_pat (okItems_at h hi)⟩
  have e : itemsCh l = (l.map itemBody).flatMap (fun p => p ++ [10]) := by
    unfold itemsCh
    rw [List.flatMap_map]
    congr 1
    funext c
    exact itemBody_line c
  have hl := lines_of (L := l.map itemBody) (by
    intro p hp
    obtain ⟨c, hc, rfl⟩ := List.mem_map.1 hp
    have := hall c hc
    exact (itemBody_ok this.1 this.2).2.2)
  have hb : ((l.map itemBody).map lineItem) = l := map_back _ _ _ (fun c hc => by
    have := hall c hc
    exact (itemBody_ok this.1 this.2).2.1)
  have hr : readOk (itemsCh l) = true := by
    unfold readOk
    rw [e, hl.1, hl.2, hb, h]
    have : (l.map itemBody).all lineOk = true := by
      rw [List.all_eq_true]
      intro p hp
      obtain ⟨c, hc, rfl⟩ := List.mem_map.1 hp
      have := hall c hc
      exact (itemBody_ok this.1 this.2).1
    rw [this]; rfl
  refine ⟨hr, ?_⟩
  rw [readL_yes hr, e, hl.2, hb]
end Go.Proofs.YtcgbdhbdlnimhaaGreat
